/- Dominators by the walk up a tree: plain laws, of any graph with an order of its nodes in which each node but the first has an edge from one ahead of it. -/
import Derived.WalkKit
namespace Go.Proofs.Ytbcnejobnmljlaa
set_option linter.unusedVariables false

/-- A graph of what is reached (R) from 0, places (pl), a node ahead of each (p0). -/
structure Gra where
  R : Nat → Prop
  E : Nat → Nat → Prop
  pl : Nat → Nat
  p0 : Nat → Nat
  r0 : R 0
  pl0 : pl 0 = 0
  inj : ∀ a b, R a → R b → pl a = pl b → a = b
  par : ∀ c, R c → c ≠ 0 → R (p0 c) ∧ E (p0 c) c ∧ pl (p0 c) < pl c
  fwd : ∀ a b, R a → E a b → R b
def Pr (U : Nat → Int) (b : Nat) : Prop := b = 0 ∨ 0 ≤ U b
structure Tr (G : Gra) (U : Nat → Int) : Prop where
  z : U 0 = -1
  up : ∀ b, 0 ≤ U b → G.R b ∧ G.R (U b).toNat ∧ G.pl (U b).toNat < G.pl b ∧ Pr U (U b).toNat
/-- z stands on the way up from x. -/
inductive Upw (U : Nat → Int) (z : Nat) : Nat → Prop
  | refl : Upw U z z
  | up {x : Nat} : 0 ≤ U x → Upw U z (U x).toNat → Upw U z x
section
variable {G : Gra} {U : Nat → Int} {a b c x y z : Nat}
theorem Upw.le (h : Tr G U) (k : Upw U z x) : z = x ∨ G.pl z < G.pl x := by
  induction k with
  | refl => exact .inl rfl
  | up hx _ ih =>
    have := (h.up _ hx).2.2.1
    rcases ih with rfl | ih
    · exact .inr this
    · exact .inr (by omega)
theorem Upw.ple (h : Tr G U) (k : Upw U z x) : G.pl z ≤ G.pl x := by
  rcases k.le h with rfl | k
  · exact Nat.le_refl _
  · omega
theorem Upw.trans (h : Upw U y x) (k : Upw U z y) : Upw U z x := by
  induction h with
  | refl => exact k
  | up hx _ ih => exact .up hx ih
theorem Upw.pr (h : Tr G U) (hp : Pr U x) (k : Upw U z x) : Pr U z := by
  induction k with
  | refl => exact hp
  | up hx _ ih => exact ih (h.up _ hx).2.2.2
theorem Upw.inv (k : Upw U z x) : z = x ∨ (0 ≤ U x ∧ Upw U z (U x).toNat) := by
  cases k with
  | refl => exact .inl rfl
  | up h1 h2 => exact .inr ⟨h1, h2⟩
theorem Upw.total (h : Tr G U) (k : Upw U y x) (j : Upw U z x) (hl : G.pl y ≤ G.pl z) : Upw U y z := by
  induction j with
  | refl => exact k
  | up hx j ih =>
    rcases k.inv with rfl | ⟨_, k⟩
    · have h1 := (h.up _ hx).2.2.1
      have h2 := j.ple h
      omega
    · exact ih k
theorem Pr.reached (h : Tr G U) (hp : Pr U x) : G.R x := by
  rcases hp with rfl | hp
  · exact G.r0
  · exact (h.up x hp).1
theorem Upw.zero (h : Tr G U) : ∀ (n : Nat) (x : Nat), G.pl x < n → Pr U x → Upw U 0 x
  | 0, _, hn, _ => by omega
  | n + 1, x, hn, hp => by
    rcases hp with rfl | hp
    · exact .refl
    · have h1 := h.up x hp
      exact .up hp (Upw.zero h n _ (by omega) h1.2.2.2)
/-- The last one over two. -/
def Meet (U : Nat → Int) (a b m : Nat) : Prop := Upw U m a ∧ Upw U m b ∧ ∀ z, Upw U z a → Upw U z b → Upw U z m
theorem Meet.same : Meet U a a a := ⟨.refl, .refl, fun _ h _ => h⟩
theorem Meet.left (h : Tr G U) {m : Nat} (ha : 0 ≤ U a) (hl : G.pl b < G.pl a) (k : Meet U (U a).toNat b m) : Meet U a b m :=
  ⟨.up ha k.1, k.2.1, fun z h1 h2 => by
    rcases h1.inv with rfl | ⟨_, h1⟩
    · have := h2.ple h; omega
    · exact k.2.2 z h1 h2⟩
theorem Meet.right (h : Tr G U) {m : Nat} (hb : 0 ≤ U b) (hl : G.pl a < G.pl b) (k : Meet U a (U b).toNat m) : Meet U a b m :=
  ⟨k.1, .up hb k.2.1, fun z h1 h2 => by
    rcases h2.inv with rfl | ⟨_, h2⟩
    · have := h1.ple h; omega
    · exact k.2.2 z h1 h2⟩
theorem Meet.eq (h : Tr G U) (ha : Pr U a) {m m' : Nat} (k : Meet U a b m) (k' : Meet U a b m') : m = m' := by
  have h1 := k.2.2 m' k'.1 k'.2.1
  have h2 := k'.2.2 m k.1 k.2.1
  rcases h1.le h with e | e
  · exact e.symm
  · have := h2.ple h; omega
/-- What an evaluation of some blocks ahead comes to: -1: none of them is known. -/
def Eva (U : Nat → Int) (l : List Nat) (r : Int) : Prop :=
  (r = -1 ∧ ∀ a ∈ l, ¬ Pr U a) ∨ ∃ m : Nat, r = (m : Int) ∧ Pr U m ∧ (∃ a ∈ l, Pr U a) ∧ ∀ z, Upw U z m ↔ ∀ a ∈ l, Pr U a → Upw U z a
theorem Eva.nil : Eva U [] (-1) := .inl ⟨rfl, fun a h => (by cases h)⟩
theorem Eva.skip {l : List Nat} {r : Int} (h : Eva U l r) (ha : ¬ Pr U a) : Eva U (l ++ [a]) r := by
  rcases h with ⟨h1, h2⟩ | ⟨m, h1, h2, ⟨q, hq, hq2⟩, h3⟩
  · refine .inl ⟨h1, fun c hc => ?_⟩
    rcases List.mem_append.1 hc with hc | hc
    · exact h2 c hc
    · have : c = a := by simpa using hc
      subst this; exact ha
  · refine .inr ⟨m, h1, h2, ⟨q, by simp [hq], hq2⟩, fun z => ?_⟩
    rw [h3]
    constructor
    · intro h c hc hp
      rcases List.mem_append.1 hc with hc | hc
      · exact h c hc hp
      · have : c = a := by simpa using hc
        subst this; exact absurd hp ha
    · intro h c hc hp
      exact h c (by simp [hc]) hp
theorem Eva.first {l : List Nat} (h : Eva U l (-1)) (ha : Pr U a) : Eva U (l ++ [a]) (a : Int) := by
  rcases h with ⟨_, h2⟩ | ⟨m, h1, _⟩
  · refine .inr ⟨a, rfl, ha, ⟨a, by simp, ha⟩, fun z => ⟨fun h c hc hp => ?_, fun h => h a (by simp) ha⟩⟩
    rcases List.mem_append.1 hc with hc | hc
    · exact absurd hp (h2 c hc)
    · have : c = a := by simpa using hc
      subst this; exact h
  · omega
theorem Eva.meet (ht : Tr G U) {l : List Nat} {q m : Nat} (h : Eva U l (q : Int)) (ha : Pr U a) (hm : Meet U q a m) : Eva U (l ++ [a]) (m : Int) := by
  rcases h with ⟨h1, _⟩ | ⟨q', h1, h2, ⟨p, hp, hp2⟩, h3⟩
  · omega
  · have : q' = q := by omega
    subst this
    refine .inr ⟨m, rfl, hm.1.pr ht h2, ⟨p, by simp [hp], hp2⟩, fun z => ⟨fun h c hc hpc => ?_, fun h => ?_⟩⟩
    · rcases List.mem_append.1 hc with hc | hc
      · exact (h3 z).1 (hm.1.trans h) c hc hpc
      · have : c = a := by simpa using hc
        subst this; exact hm.2.1.trans h
    · exact hm.2.2 z ((h3 z).2 fun c hc hpc => h c (by simp [hc]) hpc) (h a (by simp) ha)
theorem Eva.eq (ht : Tr G U) {l : List Nat} {r r' : Int} (h : Eva U l r) (h' : Eva U l r') : r = r' := by
  rcases h with ⟨h1, h2⟩ | ⟨m, h1, h2, ⟨a, ha, hap⟩, h3⟩ <;> rcases h' with ⟨h1', h2'⟩ | ⟨m', h1', h2', ⟨a', ha', hap'⟩, h3'⟩
  · omega
  · exact absurd hap' (h2 a' ha')
  · exact absurd hap (h2' a ha)
  · have e1 : Upw U m m' := (h3' m).2 ((h3 m).1 .refl)
    have e2 : Upw U m' m := (h3 m').2 ((h3' m').1 .refl)
    rcases e1.le ht with e | e
    · omega
    · have := e2.ple ht; omega
end

/-! ### Dominators -/
/-- A way from 0 to x that avoids d. -/
inductive Av (G : Gra) (d : Nat) : Nat → Prop
  | zero : d ≠ 0 → Av G d 0
  | step {a x : Nat} : Av G d a → G.E a x → x ≠ d → Av G d x
def Dom (G : Gra) (d x : Nat) : Prop := G.R x ∧ ¬ Av G d x
theorem Av.reached {G : Gra} {d x : Nat} (h : Av G d x) : G.R x := by
  induction h with
  | zero _ => exact G.r0
  | step _ h2 _ ih => exact G.fwd _ _ ih h2
theorem Av.ne {G : Gra} {d x : Nat} (h : Av G d x) : x ≠ d := by
  cases h with
  | zero h => exact fun e => h e.symm
  | step _ _ h => exact h
theorem Dom.pred {G : Gra} {d x a : Nat} (h : Dom G d x) (hne : d ≠ x) (ha : G.R a) (he : G.E a x) : Dom G d a :=
  ⟨ha, fun hv => h.2 (.step hv he (fun e => hne e.symm))⟩
/-- A way along the nodes ahead. -/
inductive TP (G : Gra) (b : Nat) : Nat → Prop
  | refl : TP G b b
  | step {x : Nat} : G.R x → x ≠ 0 → TP G b (G.p0 x) → TP G b x
theorem TP.trans {G : Gra} {a b c : Nat} (h : TP G a b) (k : TP G b c) : TP G a c := by
  induction k with
  | refl => exact h
  | step h1 h2 _ ih => exact .step h1 h2 ih
theorem TP.ple {G : Gra} {b x : Nat} (h : TP G b x) : G.pl b ≤ G.pl x := by
  induction h with
  | refl => exact Nat.le_refl _
  | step h1 h2 _ ih => have := (G.par _ h1 h2).2.2; omega
theorem TP.av {G : Gra} {b x d : Nat} (h : TP G b x) (hd : G.pl d < G.pl b) (hv : Av G d b) : Av G d x := by
  induction h with
  | refl => exact hv
  | step h1 h2 hp ih =>
    have h3 := (G.par _ h1 h2)
    have h4 := hp.ple
    exact .step ih h3.2.1 (fun e => by subst e; omega)

/-! ### Going over all blocks -/
def setU (U : Nat → Int) (b : Nat) (r : Int) : Nat → Int := fun x => if x = b then r else U x
/-- While a pass goes on: blocks whose place is below k have been evaluated in it. -/
structure Ps (G : Gra) (pre : Nat → List Nat) (U : Nat → Int) (k : Nat) : Prop where
  tr : Tr G U
  j0 : ∀ c, 0 ≤ U c → ∀ z, (∀ a ∈ pre c, Pr U a → Upw U z a) → G.pl z ≤ G.pl (U c).toNat
  j1 : ∀ c, 0 ≤ U c → k ≤ G.pl c → Upw U (U c).toNat (G.p0 c) ∨ (G.pl (U c).toNat < k ∧ ∀ y, Upw U y (G.p0 c) → G.pl y ≤ G.pl (U c).toNat → Upw U y (U c).toNat)
  j2 : ∀ c, 0 ≤ U c → G.pl c < k → Upw U (U c).toNat (G.p0 c)
  j3 : ∀ x d, Pr U x → Dom G d x → Upw U d x
  j4 : ∀ c, 0 ≤ U c → TP G (U c).toNat c
  j5 : ∀ c, G.R c → G.pl c < k → Pr U c
  j6 : ∀ c, 0 ≤ U c → Pr U (G.p0 c)
  j7 : ∀ c, U c = -1 ∨ 0 ≤ U c
section
variable {G : Gra} {pre : Nat → List Nat} {U : Nat → Int} {k : Nat}
theorem Ps.start (hp : ∀ c, c = 0 ∨ G.pl c ≠ 0 ∨ ¬ G.R c) : Ps G pre (fun _ => -1) 1 := by
  have no : ∀ c : Nat, ¬ (0 ≤ (fun _ : Nat => (-1 : Int)) c) := by intro c h; simp at h
  refine ⟨⟨rfl, fun b h => absurd h (no b)⟩, fun c h => absurd h (no c), fun c h => absurd h (no c), fun c h => absurd h (no c), ?_, fun c h => absurd h (no c), ?_, fun c h => absurd h (no c), fun c => .inl rfl⟩
  · rintro x d (rfl | h) hd
    · by_cases e : d = 0
      · subst e; exact .refl
      · exact absurd (Av.zero e) hd.2
    · exact absurd h (no x)
  · intro c hr hc
    rcases hp c with h | h | h
    · exact .inl h
    · omega
    · exact absurd hr h
/-- A pass is over: the next one begins. -/
theorem Ps.again {n : Nat} (h : Ps G pre U n) (hall : ∀ c, G.R c → G.pl c < n) (hp : ∀ c, c = 0 ∨ G.pl c ≠ 0 ∨ ¬ G.R c) : Ps G pre U 1 := by
  refine ⟨h.tr, h.j0, fun c hc _ => .inl (h.j2 c hc (hall c (h.tr.up c hc).1)), fun c hc hl => ?_, h.j3, h.j4, ?_, h.j6, h.j7⟩
  · rcases hp c with e | e | e
    · subst e; have := h.tr.z; omega
    · omega
    · exact absurd (h.tr.up c hc).1 e
  · intro c hr hc
    rcases hp c with e | e | e
    · exact .inl e
    · omega
    · exact absurd hr e
theorem TP.of_anc (ht : Tr G U) (h4 : ∀ c, 0 ≤ U c → TP G (U c).toNat c) {z x : Nat} (h : Upw U z x) : TP G z x := by
  induction h with
  | refl => exact .refl
  | up hx _ ih => exact ih.trans (h4 _ hx)
/-- What a block is told lies on the way up from what it was. -/
theorem Ps.shrinks {b m : Nat} (h : Ps G pre U k) (hb : G.R b) (hb0 : b ≠ 0) (hk : G.pl b = k) (hpre : G.p0 b ∈ pre b) (hU : 0 ≤ U b) (hm : Eva U (pre b) (m : Int)) : Upw U m (U b).toNat := by
  rcases hm with ⟨h1, _⟩ | ⟨m', h1, h2, _, h3⟩
  · omega
  · have : m' = m := by omega
    subst this
    have hp : Pr U (G.p0 b) := h.j6 b hU
    have hmp : Upw U m' (G.p0 b) := (h3 m').1 .refl _ hpre hp
    have hle : G.pl m' ≤ G.pl (U b).toNat := h.j0 b hU m' fun a ha hpa => (h3 m').1 .refl a ha hpa
    rcases h.j1 b hU (by omega) with h4 | ⟨_, h4⟩
    · exact hmp.total h.tr h4 hle
    · exact h4 m' hmp hle
/-- Nothing is turned: the next one. -/
theorem Ps.keep {b : Nat} (h : Ps G pre U k) (hb : G.R b) (hb0 : b ≠ 0) (hk : G.pl b = k) (hpre : G.p0 b ∈ pre b) (hm : Eva U (pre b) (U b)) : Ps G pre U (k + 1) := by
  have hpar := G.par b hb hb0
  have hpp : Pr U (G.p0 b) := h.j5 _ hpar.1 (by omega)
  have hU : 0 ≤ U b := by
    rcases hm with ⟨_, h2⟩ | ⟨m, h1, _⟩
    · exact absurd hpp (h2 _ hpre)
    · omega
  have hanc : Upw U (U b).toNat (G.p0 b) := by
    rcases hm with ⟨_, h2⟩ | ⟨m, h1, _, _, h3⟩
    · exact absurd hpp (h2 _ hpre)
    · rw [h1, Int.toNat_natCast]
      exact (h3 m).1 .refl _ hpre hpp
  have hone : ∀ c, G.R c → G.pl c = k → c = b := fun c hc e => G.inj c b hc hb (by omega)
  refine ⟨h.tr, h.j0, fun c hc hl => ?_, fun c hc hl => ?_, h.j3, h.j4, fun c hr hl => ?_, h.j6, h.j7⟩
  · exact (h.j1 c hc (by omega)).imp id fun ⟨h1, h2⟩ => ⟨by omega, h2⟩
  · by_cases e : G.pl c = k
    · have := hone c (h.tr.up c hc).1 e
      subst this; exact hanc
    · exact h.j2 c hc (by omega)
  · by_cases e : G.pl c = k
    · have := hone c hr e
      subst this; exact .inr hU
    · exact h.j5 c hr (by omega)
section
variable {b m : Nat}
theorem setU_same (U : Nat → Int) (b : Nat) (r : Int) : setU U b r b = r := by simp [setU]
theorem setU_other {U : Nat → Int} {b x : Nat} {r : Int} (h : x ≠ b) : setU U b r x = U x := by simp [setU, h]
theorem anc_set_of {r : Int} {z x : Nat} (hb : ¬ Upw U b x) (h : Upw U z x) : Upw (setU U b r) z x := by
  induction h with
  | refl => exact .refl
  | @up x hx _ ih =>
    have hne : x ≠ b := fun e => hb (by subst e; exact .refl)
    refine .up (by rw [setU_other hne]; exact hx) ?_
    rw [setU_other hne]
    exact ih fun h => hb (.up hx h)
theorem anc_of_set {r : Int} {z x : Nat} (hb : ¬ Upw U b x) (h : Upw (setU U b r) z x) : Upw U z x := by
  induction h with
  | refl => exact .refl
  | @up x hx _ ih =>
    have hne : x ≠ b := fun e => hb (by subst e; exact .refl)
    rw [setU_other hne] at hx ih
    exact .up hx (ih fun h => hb (.up hx h))
theorem anc_set_upper {r : Int} (ht : Tr G U) {z x : Nat} (hz : Upw U z x) (hbz : Upw U b z) : Upw (setU U b r) z x := by
  induction hz with
  | refl => exact .refl
  | @up x hx hz ih =>
    have hne : x ≠ b := fun e => by
      subst e
      have h1 := hz.ple ht
      have h2 := (ht.up x hx).2.2.1
      have h3 := hbz.ple ht
      omega
    refine .up (by rw [setU_other hne]; exact hx) ?_
    rw [setU_other hne]
    exact ih
/-- What is turned. -/
structure Tn (G : Gra) (U : Nat → Int) (b m : Nat) : Prop where
  lt : G.pl m < G.pl b
  bel : ∀ z, Upw (setU U b m) z b ↔ z = b ∨ Upw U z m
  fwd : ∀ z x, x ≠ b → Pr U x → Upw (setU U b m) z x → Upw U z x
  upper : ∀ z x, Upw U z x → Upw U b x → G.pl b ≤ G.pl z → Upw (setU U b m) z x
  lower : ∀ z x, Upw U b x → Upw U z m → Upw (setU U b m) z x
theorem Tn.mk' (h : Ps G pre U k) (hb : G.R b) (hb0 : b ≠ 0) (hk : G.pl b = k) (hpre : G.p0 b ∈ pre b) (hm : Eva U (pre b) (m : Int)) : Tn G U b m := by
  have hpar := G.par b hb hb0
  have hpp : Pr U (G.p0 b) := h.j5 _ hpar.1 (by omega)
  obtain ⟨hpm, hanc⟩ : Pr U m ∧ Upw U m (G.p0 b) := by
    rcases hm with ⟨_, h2⟩ | ⟨m', h1, h2, _, h3⟩
    · exact absurd hpp (h2 _ hpre)
    · have : m' = m := by omega
      subst this
      exact ⟨h2, (h3 m').1 .refl _ hpre hpp⟩
  have hlt : G.pl m < G.pl b := by have := hanc.ple h.tr; omega
  have hnb : ¬ Upw U b m := fun e => by have := e.ple h.tr; omega
  have hbel : ∀ z, Upw (setU U b m) z b ↔ z = b ∨ Upw U z m := by
    intro z
    constructor
    · intro hz
      rcases hz.inv with e | ⟨_, hz⟩
      · exact .inl e
      · rw [setU_same, Int.toNat_natCast] at hz
        exact .inr (anc_of_set hnb hz)
    · rintro (rfl | hz)
      · exact .refl
      · refine .up (by rw [setU_same]; omega) ?_
        rw [setU_same, Int.toNat_natCast]
        exact anc_set_of hnb hz
  refine ⟨hlt, hbel, ?_, ?_, ?_⟩
  · intro z x hx hpx hz
    rcases h.j7 b with hU | hU
    · have hnb : ¬ Upw U b x := fun e => by
        rcases e.pr h.tr hpx with e | e
        · exact hb0 e
        · omega
      exact anc_of_set hnb hz
    · have hsh := h.shrinks hb hb0 hk hpre hU hm
      clear hx hpx
      induction hz with
      | refl => exact .refl
      | @up x hx _ ih =>
        by_cases e : x = b
        · subst e
          rw [setU_same, Int.toNat_natCast] at ih
          exact .up hU (hsh.trans ih)
        · rw [setU_other e] at hx ih
          exact .up hx ih
  · intro z x hz hbx hl
    exact anc_set_upper h.tr hz (hbx.total h.tr hz hl)
  · intro z x hbx hz
    exact (anc_set_upper h.tr hbx .refl).trans ((hbel z).2 (.inr hz))
theorem Ps.turn (h : Ps G pre U k) (hb : G.R b) (hb0 : b ≠ 0) (hk : G.pl b = k) (hpre : ∀ a, a ∈ pre b ↔ G.E a b) (hm : Eva U (pre b) (m : Int)) : Ps G pre (setU U b m) (k + 1) := by
  have hpar := G.par b hb hb0
  have hp0m : G.p0 b ∈ pre b := (hpre _).2 hpar.2.1
  have hpp : Pr U (G.p0 b) := h.j5 _ hpar.1 (by omega)
  have T := Tn.mk' h hb hb0 hk hp0m hm
  obtain ⟨hpm, hev⟩ : Pr U m ∧ ∀ z, Upw U z m ↔ ∀ a ∈ pre b, Pr U a → Upw U z a := by
    rcases hm with ⟨_, h2⟩ | ⟨m', h1, h2, _, h3⟩
    · exact absurd hpp (h2 _ hp0m)
    · have : m' = m := by omega
      subst this
      exact ⟨h2, h3⟩
  have hanc : Upw U m (G.p0 b) := (hev m).1 .refl _ hp0m hpp
  have hone : ∀ c, G.R c → G.pl c = k → c = b := fun c hc e => G.inj c b hc hb (by omega)
  have hprs : ∀ c, Pr U c → Pr (setU U b m) c := fun c hc => by
    rcases hc with e | e
    · exact .inl e
    · by_cases e2 : c = b
      · subst e2; exact .inr (by rw [setU_same]; omega)
      · exact .inr (by rw [setU_other e2]; exact e)
  have hprb : Pr (setU U b m) b := .inr (by rw [setU_same]; omega)
  have hprx : ∀ c, c ≠ b → Pr (setU U b m) c → Pr U c := fun c hne hc => by
    rcases hc with e | e
    · exact .inl e
    · rw [setU_other hne] at e; exact .inr e
  have htr : Tr G (setU U b m) := by
    refine ⟨by rw [setU_other (fun e => hb0 e.symm)]; exact h.tr.z, fun c hc => ?_⟩
    by_cases e : c = b
    · subst e
      rw [setU_same, Int.toNat_natCast]
      exact ⟨hb, hpm.reached h.tr, T.lt, hprs m hpm⟩
    · rw [setU_other e] at hc ⊢
      have h1 := h.tr.up c hc
      exact ⟨h1.1, h1.2.1, h1.2.2.1, hprs _ h1.2.2.2⟩
  -- a block whose way up does not come by b keeps it
  have hfree : ∀ x z, ¬ Upw U b x → (Upw (setU U b m) z x ↔ Upw U z x) := fun x z hn => ⟨anc_of_set hn, anc_set_of hn⟩
  have hlow : ∀ x, G.pl x < k → ¬ Upw U b x := fun x hl e => by have := e.ple h.tr; omega
  refine ⟨htr, ?_, ?_, ?_, ?_, ?_, ?_, ?_, ?_⟩
  · -- j0
    intro c hc z hz
    by_cases e : c = b
    · subst e
      rw [setU_same, Int.toNat_natCast]
      have : Upw U z m := (hev z).2 fun a ha hpa => by
        by_cases e2 : a = c
        · subst e2
          -- c itself is ahead of it
          rcases h.j7 a with hU | hU
          · rcases hpa with e3 | e3
            · exact absurd e3 hb0
            · omega
          · rcases (T.bel z).1 (hz a ha hprb) with e3 | e3
            · subst e3; exact .refl
            · exact .up hU ((h.shrinks hb hb0 hk hp0m hU hm).trans e3)
        · exact T.fwd z a e2 hpa (hz a ha (hprs a hpa))
      exact this.ple h.tr
    · rw [setU_other e] at hc ⊢
      refine h.j0 c hc z fun a ha hpa => ?_
      by_cases e2 : a = b
      · subst e2
        rcases h.j7 a with hU | hU
        · rcases hpa with e3 | e3
          · exact absurd e3 hb0
          · omega
        · rcases (T.bel z).1 (hz a ha hprb) with e3 | e3
          · subst e3; exact .refl
          · exact .up hU ((h.shrinks hb hb0 hk hp0m hU hm).trans e3)
      · exact T.fwd z a e2 hpa (hz a ha (hprs a hpa))
  · -- j1
    intro c hc hl
    have e : c ≠ b := fun e => by subst e; omega
    rw [setU_other e] at hc ⊢
    have hR := (h.tr.up c hc)
    have hpc := h.j6 c hc
    by_cases hbp : Upw U b (G.p0 c)
    · rcases h.j1 c hc (by omega) with h1 | ⟨h1, h2⟩
      · by_cases hw : G.pl b ≤ G.pl (U c).toNat
        · exact .inl (T.upper _ _ h1 hbp hw)
        · right
          refine ⟨by omega, fun y hy hyl => ?_⟩
          have hyU : Upw U y (G.p0 c) := by
            by_cases e2 : G.p0 c = b
            · rw [e2] at hy ⊢
              have hU : 0 ≤ U b := by
                rw [e2] at hpc
                exact hpc.resolve_left hb0
              rcases (T.bel y).1 hy with e3 | e3
              · subst e3; exact .refl
              · exact .up hU ((h.shrinks hb hb0 hk hp0m hU hm).trans e3)
            · exact T.fwd y _ e2 hpc hy
          have := hyU.total h.tr h1 hyl
          exact (hfree _ _ (hlow _ (by omega))).2 this
      · right
        refine ⟨by omega, fun y hy hyl => ?_⟩
        have hyU : Upw U y (G.p0 c) := by
          by_cases e2 : G.p0 c = b
          · rw [e2] at hy ⊢
            have hU : 0 ≤ U b := by
              rw [e2] at hpc
              exact hpc.resolve_left hb0
            rcases (T.bel y).1 hy with e3 | e3
            · subst e3; exact .refl
            · exact .up hU ((h.shrinks hb hb0 hk hp0m hU hm).trans e3)
          · exact T.fwd y _ e2 hpc hy
        exact (hfree _ _ (hlow _ (by omega))).2 (h2 y hyU hyl)
    · rcases h.j1 c hc (by omega) with h1 | ⟨h1, h2⟩
      · exact .inl ((hfree _ _ hbp).2 h1)
      · right
        refine ⟨by omega, fun y hy hyl => ?_⟩
        exact (hfree _ _ (hlow _ (by omega))).2 (h2 y ((hfree _ _ hbp).1 hy) hyl)
  · -- j2
    intro c hc hl
    by_cases e : c = b
    · subst e
      rw [setU_same, Int.toNat_natCast]
      exact (hfree _ _ (hlow _ (by omega))).2 hanc
    · rw [setU_other e] at hc ⊢
      have h1 := h.tr.up c hc
      have hlt : G.pl c < k := by
        rcases Nat.lt_or_ge (G.pl c) k with h2 | h2
        · exact h2
        · exact absurd (hone c h1.1 (by omega)) e
      have hc0 : c ≠ 0 := fun e => by subst e; have := h.tr.z; omega
      have h3 := G.par c h1.1 hc0
      exact (hfree _ _ (hlow _ (by omega))).2 (h.j2 c hc hlt)
  · -- j3
    have hbd : ∀ d, Dom G d b → d = b ∨ Upw U d m := fun d hd => by
      by_cases e : d = b
      · exact .inl e
      · exact .inr ((hev d).2 fun a ha hpa => h.j3 a d hpa (hd.pred e (hpa.reached h.tr) ((hpre a).1 ha)))
    intro x d hpx hd
    by_cases e : x = b
    · subst e
      exact (T.bel d).2 (hbd d hd)
    · have hpx' := hprx x e hpx
      have hdx := h.j3 x d hpx' hd
      by_cases hbx : Upw U b x
      · rcases Nat.lt_or_ge (G.pl d) (G.pl b) with hl | hl
        · have hdb : Dom G d b := ⟨hb, fun hv => hd.2 (TP.av (TP.of_anc h.tr h.j4 hbx) hl hv)⟩
          rcases hbd d hdb with e2 | e2
          · subst e2; omega
          · exact T.lower d x hbx e2
        · exact T.upper d x hdx hbx hl
      · exact (hfree _ _ hbx).2 hdx
  · -- j4
    intro c hc
    by_cases e : c = b
    · subst e
      rw [setU_same, Int.toNat_natCast]
      exact .step hb hb0 (TP.of_anc h.tr h.j4 hanc)
    · rw [setU_other e] at hc ⊢
      exact h.j4 c hc
  · -- j5
    intro c hr hl
    by_cases e : c = b
    · subst e; exact hprb
    · have hlt : G.pl c < k := by
        rcases Nat.lt_or_ge (G.pl c) k with h2 | h2
        · exact h2
        · exact absurd (hone c hr (by omega)) e
      exact hprs c (h.j5 c hr hlt)
  · -- j6
    intro c hc
    by_cases e : c = b
    · subst e; exact hprs _ hpp
    · rw [setU_other e] at hc
      exact hprs _ (h.j6 c hc)
  · -- j7
    intro c
    by_cases e : c = b
    · subst e; right; rw [setU_same]; omega
    · rw [setU_other e]; exact h.j7 c
end
/-- What is told at last. -/
structure Fin_ (G : Gra) (U : Nat → Int) : Prop where
  tr : Tr G U
  all : ∀ c, G.R c → Pr U c
  dom : ∀ d x, G.R x → (Upw U d x ↔ Dom G d x)
  non : ∀ c, ¬ G.R c → U c = -1
theorem Ps.fin {n : Nat} (h : Ps G pre U n) (hall : ∀ c, G.R c → G.pl c < n) (hpre : ∀ a b, a ∈ pre b ↔ G.E a b) (hfix : ∀ b, G.R b → b ≠ 0 → Eva U (pre b) (U b)) : Fin_ G U := by
  have hpr : ∀ c, G.R c → Pr U c := fun c hc => h.j5 c hc (hall c hc)
  refine ⟨h.tr, hpr, fun d x hx => ⟨fun ha => ⟨hx, fun hv => ?_⟩, fun hd => h.j3 x d (hpr x hx) hd⟩, fun c hc => ?_⟩
  · have key : ∀ x, Av G d x → ¬ Upw U d x := by
      intro x hv
      induction hv with
      | zero h0 =>
        intro ha
        rcases ha.inv with e | ⟨e, _⟩
        · exact h0 e
        · have := h.tr.z; omega
      | @step a x hv he hne ih =>
        intro ha
        have hra := hv.reached
        have hrx := G.fwd _ _ hra he
        rcases ha.inv with e | ⟨e, hd⟩
        · exact hne e.symm
        · have hx0 : x ≠ 0 := fun e2 => by subst e2; have := h.tr.z; omega
          rcases hfix x hrx hx0 with ⟨_, h2⟩ | ⟨m, h1, _, _, h3⟩
          · exact h2 a ((hpre a x).2 he) (hpr a hra)
          · rw [h1, Int.toNat_natCast] at hd
            exact ih ((h3 d).1 hd a ((hpre a x).2 he) (hpr a hra))
    exact key x hv ha
  · rcases h.j7 c with e | e
    · exact e
    · exact absurd (h.tr.up c e).1 hc
theorem Fin_.eq {U' : Nat → Int} (h : Fin_ G U) (h' : Fin_ G U') : ∀ c, U c = U' c := by
  intro c
  by_cases hc : G.R c
  · by_cases h0 : c = 0
    · subst h0; rw [h.tr.z, h'.tr.z]
    · have e1 := (h.all c hc).resolve_left h0
      have e2 := (h'.all c hc).resolve_left h0
      have hx : ∀ z, Upw U z c ↔ Upw U' z c := fun z => by rw [h.dom z c hc, h'.dom z c hc]
      have l1 := (h.tr.up c e1).2.2.1
      have l2 := (h'.tr.up c e2).2.2.1
      have a1 : Upw U' (U c).toNat (U' c).toNat := by
        have : Upw U' (U c).toNat c := (hx _).1 (.up e1 .refl)
        rcases this.inv with e | ⟨_, e⟩
        · rw [e] at l1; omega
        · exact e
      have a2 : Upw U (U' c).toNat (U c).toNat := by
        have : Upw U (U' c).toNat c := (hx _).2 (.up e2 .refl)
        rcases this.inv with e | ⟨_, e⟩
        · rw [e] at l2; omega
        · exact e
      rcases a1.le h'.tr with e | e
      · omega
      · have := a2.ple h.tr; omega
  · rw [h.non c hc, h'.non c hc]
end
theorem TP.rch {G : Gra} {b x : Nat} (h : TP G b x) (hx : G.R x) : G.R b := by
  induction h with
  | refl => exact hx
  | step h1 h2 _ ih => exact ih (G.par _ h1 h2).1
theorem tp_or_av {G : Gra} {d : Nat} : ∀ (n x : Nat), G.pl x < n → G.R x → TP G d x ∨ Av G d x
  | 0, x, h, _ => by omega
  | n + 1, x, h, hx => by
    by_cases h0 : x = 0
    · subst h0
      by_cases e : d = 0
      · subst e; exact .inl .refl
      · exact .inr (.zero e)
    · have hp := G.par x hx h0
      rcases tp_or_av (d := d) n (G.p0 x) (by omega) hp.1 with h1 | h1
      · exact .inl (.step hx h0 h1)
      · by_cases e : x = d
        · subst e; exact .inl .refl
        · exact .inr (.step h1 hp.2.1 e)
theorem Dom.tp {G : Gra} {d x : Nat} (h : Dom G d x) : TP G d x := (tp_or_av _ x (Nat.lt_succ_self _) h.1).resolve_right h.2
theorem Dom.self {G : Gra} {x : Nat} (h : G.R x) : Dom G x x := ⟨h, fun hv => hv.ne rfl⟩
theorem Dom.zero {G : Gra} {x : Nat} (h : G.R x) : Dom G 0 x := ⟨h, fun hv => by
  have : ∀ y, ¬ Av G 0 y := fun y hy => by
    induction hy with
    | zero h => exact h rfl
    | step _ _ _ ih => exact ih
  exact this x hv⟩
theorem Dom.lt {G : Gra} {d x : Nat} (h : Dom G d x) (hne : d ≠ x) : G.pl d < G.pl x := by
  rcases Nat.lt_or_ge (G.pl d) (G.pl x) with h1 | h1
  · exact h1
  · exact absurd (G.inj d x (h.tp.rch h.1) h.1 (by have := h.tp.ple; omega)) hne
theorem Av.via {G : Gra} {a d x : Nat} (h : Av G d x) : Av G a x ∨ Av G d a := by
  induction h with
  | zero h0 =>
    by_cases e : a = 0
    · subst e; exact .inr (.zero h0)
    · exact .inl (.zero e)
  | @step b x hv he hne ih =>
    rcases ih with h1 | h1
    · by_cases e : x = a
      · subst e; exact .inr (.step hv he hne)
      · exact .inl (.step h1 he e)
    · exact .inr h1
theorem Dom.trans {G : Gra} {a d x : Nat} (h : Dom G d a) (k : Dom G a x) : Dom G d x := ⟨k.1, fun hv => hv.via.elim k.2 h.2⟩
def Idm (G : Gra) (x d : Nat) : Prop := Dom G d x ∧ d ≠ x ∧ ∀ c, Dom G c x → c ≠ x → G.pl c ≤ G.pl d
theorem idm_ex {G : Gra} {x : Nat} (hx : G.R x) (h0 : x ≠ 0) : ∃ d, Idm G x d := by
  have : ∀ (n : Nat) (d : Nat), Dom G d x → d ≠ x → G.pl x - G.pl d < n → ∃ d, Idm G x d := by
    intro n
    induction n with
    | zero => intro d _ _ h; omega
    | succ n ih =>
      intro d hd hne hn
      by_cases e : ∃ c, Dom G c x ∧ c ≠ x ∧ G.pl d < G.pl c
      · obtain ⟨c, h1, h2, h3⟩ := e
        have := h1.lt h2
        exact ih c h1 h2 (by omega)
      · refine ⟨d, hd, hne, fun c h1 h2 => ?_⟩
        rcases Nat.lt_or_ge (G.pl d) (G.pl c) with h3 | h3
        · exact absurd ⟨c, h1, h2, h3⟩ e
        · exact h3
  exact this _ 0 (Dom.zero hx) (fun e => h0 e.symm) (Nat.lt_succ_self _)
open Classical in
noncomputable def idU (G : Gra) (x : Nat) : Int := if G.R x ∧ x ≠ 0 then ((Classical.epsilon (Idm G x) : Nat) : Int) else -1
theorem idU_spec {G : Gra} {x : Nat} (h : 0 ≤ idU G x) : G.R x ∧ x ≠ 0 ∧ Idm G x (idU G x).toNat := by
  unfold idU at h ⊢
  by_cases e : G.R x ∧ x ≠ 0
  · rw [if_pos e, Int.toNat_natCast]
    exact ⟨e.1, e.2, Classical.epsilon_spec (idm_ex e.1 e.2)⟩
  · rw [if_neg e] at h; omega
theorem idU_pos {G : Gra} {x : Nat} (h : G.R x) (h0 : x ≠ 0) : 0 ≤ idU G x := by
  unfold idU
  rw [if_pos ⟨h, h0⟩]
  omega
theorem idU_fin (G : Gra) : Fin_ G (idU G) := by
  have hpr : ∀ c, G.R c → Pr (idU G) c := fun c hc => by
    by_cases h0 : c = 0
    · exact .inl h0
    · exact .inr (idU_pos hc h0)
  have htr : Tr G (idU G) := by
    refine ⟨by unfold idU; rw [if_neg (fun h => h.2 rfl)], fun b hb => ?_⟩
    obtain ⟨h1, h2, h3⟩ := idU_spec hb
    have h4 := h3.1.tp.rch h1
    exact ⟨h1, h4, h3.1.lt h3.2.1, hpr _ h4⟩
  refine ⟨htr, hpr, fun d x hx => ⟨fun h => ?_, ?_⟩, fun c hc => by unfold idU; rw [if_neg (fun h => hc h.1)]⟩
  · induction h with
    | refl => exact .self hx
    | up h1 _ ih => exact (ih (htr.up _ h1).2.1).trans (idU_spec h1).2.2.1
  · have : ∀ (n x : Nat), G.pl x < n → G.R x → Dom G d x → Upw (idU G) d x := by
      intro n
      induction n with
      | zero => intro x h; omega
      | succ n ih =>
        intro x hn hx hd
        by_cases e : d = x
        · subst e; exact .refl
        · have h0 : x ≠ 0 := fun e0 => by subst e0; exact hd.2 (.zero e)
          have hu := idU_pos hx h0
          obtain ⟨_, _, h3⟩ := idU_spec hu
          have hr := h3.1.tp.rch hx
          have hlt := h3.1.lt h3.2.1
          refine .up hu (ih _ (by omega) hr ⟨hr, fun hv => ?_⟩)
          have hle := h3.2.2 d hd e
          by_cases e2 : d = (idU G x).toNat
          · exact hv.ne e2.symm
          · refine hd.2 (h3.1.tp.av ?_ hv)
            rcases Nat.lt_or_ge (G.pl d) (G.pl (idU G x).toNat) with h5 | h5
            · exact h5
            · exact absurd (G.inj _ _ (hd.tp.rch hx) hr (by omega)) e2
    exact this _ x (Nat.lt_succ_self _) hx
end Go.Proofs.Ytbcnejobnmljlaa
