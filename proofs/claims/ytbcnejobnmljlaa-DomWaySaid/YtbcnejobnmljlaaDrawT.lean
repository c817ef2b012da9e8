/- A region whose order is drawn, in which an operation may take what another one made, or what was there (tokens), and turn it: one walk serves every order. -/
import Derived.Test.YtbcnejobnmljlaaApp
namespace Go.Proofs.Ytbcnejobnmljlaa
set_option linter.unusedVariables false
open Go Go.RowKit

def liveT (tk : Nat → Option Nat) (E : List Nat) : List Nat := E.filter fun c => !(E.any fun k => decide (tk k = some c))
theorem mem_liveT {tk : Nat → Option Nat} {E : List Nat} {c : Nat} : c ∈ liveT tk E ↔ c ∈ E ∧ ∀ k ∈ E, tk k ≠ some c := by
  unfold liveT
  simp [List.mem_filter]
def WkT (C : Ctx) (all : Array Oper) (ex : Nat → Option (Value → List Res → Prop)) (nd : Nat → List Nat) (tk : Nat → Option Nat) (u : Got) (L0 : List Res) : Nat → List Oper → Env → List Nat → (Env → List Nat → Prop) → Prop
  | _, [], σ, E, K => K σ E
  | k, o :: rest, σ, E, K =>
    bif wants all σ o then
      (∀ c ∈ nd k, c ∈ liveT tk E) ∧ okDst C.N o.dst = true ∧
      match ex k with
      | some V => Sp C.P C.w0 C.B o σ (needs u (nd k) L0) (Adds V (needs u ((nd k).filter fun c => !decide (tk k = some c)) L0)) ∧ WkT C all ex nd tk u L0 (k + 1) rest (updO σ o.dst (u k).1) (k :: E) K
      | none => ∃ v, Sd C.P C.w0 C.B o σ (needs u (nd k) L0) v ∧ WkT C all ex nd tk u L0 (k + 1) rest (updO σ o.dst v) E K
    else okDst C.N o.dst = true ∧ WkT C all ex nd tk u L0 (k + 1) rest (updO σ o.dst undef) E K
def StepT (C : Ctx) (all : Array Oper) (ex : Nat → Option (Value → List Res → Prop)) (nd : Nat → List Nat) (tk : Nat → Option Nat) (u : Got) (L0 : List Res) (k : Nat) (o : Oper) (σ : Env) (E : List Nat) (v : Value) : Prop :=
  okDst C.N o.dst = true ∧
  ((wants all σ o = true ∧ (∀ c ∈ nd k, c ∈ liveT tk E) ∧ ((∃ V, ex k = some V ∧ v = (u k).1 ∧ Sp C.P C.w0 C.B o σ (needs u (nd k) L0) (Adds V (needs u ((nd k).filter fun c => !decide (tk k = some c)) L0))) ∨ (ex k = none ∧ Sd C.P C.w0 C.B o σ (needs u (nd k) L0) v))) ∨
   (wants all σ o = false ∧ v = undef))
theorem WkT.vals {C : Ctx} {all : Array Oper} {ex : Nat → Option (Value → List Res → Prop)} {nd : Nat → List Nat} {tk : Nat → Option Nat} {u : Got} {L0 : List Res} {K : Env → List Nat → Prop} :
    ∀ (l : List Oper) (k : Nat) (σ : Env) (E : List Nat), WkT C all ex nd tk u L0 k l σ E K →
      ∃ vs : List Value, vs.length = l.length ∧ (∀ i o v, l[i]? = some o → vs[i]? = some v → StepT C all ex nd tk u L0 (k + i) o (envAt (l.take i) (vs.take i) σ) (exAt all ex k (l.take i) (vs.take i) σ E) v) ∧ K (envAt l vs σ) (exAt all ex k l vs σ E)
  | [], k, σ, E, h => ⟨[], rfl, fun i o v h => by simp at h, h⟩
  | o :: l, k, σ, E, h => by
    have key : ∀ v E', StepT C all ex nd tk u L0 k o σ E v → E' = made all ex k o σ E → WkT C all ex nd tk u L0 (k + 1) l (updO σ o.dst v) E' K →
        ∃ vs : List Value, vs.length = (o :: l).length ∧ (∀ i o' v, (o :: l)[i]? = some o' → vs[i]? = some v → StepT C all ex nd tk u L0 (k + i) o' (envAt ((o :: l).take i) (vs.take i) σ) (exAt all ex k ((o :: l).take i) (vs.take i) σ E) v) ∧ K (envAt (o :: l) vs σ) (exAt all ex k (o :: l) vs σ E) := by
      rintro v E' hs rfl hw
      obtain ⟨vs, h1, h2, h3⟩ := WkT.vals l (k + 1) _ _ hw
      refine ⟨v :: vs, by simp [h1], ?_, h3⟩
      intro i o' v' hi hv
      cases i with
      | zero =>
        simp only [List.getElem?_cons_zero, Option.some.injEq] at hi hv
        subst hi; subst hv
        exact hs
      | succ i =>
        have := h2 i o' v' (by simpa using hi) (by simpa using hv)
        rw [show k + 1 + i = k + (i + 1) from by omega] at this
        exact this
    unfold WkT at h
    cases hw : wants all σ o with
    | true =>
      simp only [hw, cond_true] at h
      obtain ⟨hn, hd, h⟩ := h
      cases hx : ex k with
      | some V =>
        simp only [hx] at h
        exact key (u k).1 (k :: E) ⟨hd, .inl ⟨hw, hn, .inl ⟨V, hx, rfl, h.1⟩⟩⟩ (by simp [made, hw, hx]) h.2
      | none =>
        simp only [hx] at h
        obtain ⟨v, hs, h⟩ := h
        exact key v E ⟨hd, .inl ⟨hw, hn, .inr ⟨hx, hs⟩⟩⟩ (by simp [made, hx]) h
    | false =>
      simp only [hw, cond_false] at h
      exact key undef E ⟨h.1, .inr ⟨hw, rfl⟩⟩ (by simp [made, hw]) h.2

/-! ### What must be so: a closed test -/
def drawOkT (ops : Array Oper) (m : Nat) (nd : Nat → List Nat) (tk : Nat → Option Nat) (E0 : List Nat) : Bool :=
  let b := bef ops
  drawOk ops m (fun k => (nd k).filter fun c => Nat.blt c 1000) && Nat.ble ops.size 1000 && (E0.eraseDups.length == E0.length) && E0.all (fun c => Nat.ble 1000 c && (tk c).isNone) &&
  (List.range m).all fun k => ((nd k).eraseDups.length == (nd k).length) && (nd k).all (fun c => Nat.blt c 1000 || E0.contains c) &&
    match tk k with
    | none => true
    | some c => (nd k).contains c && !(Nat.beq c k) && (List.range m).all fun j => Nat.beq j k || !(nd j).contains c || (Nat.blt j k && (b.getD k 0).testBit j)
structure OkT (ops : Array Oper) (m : Nat) (nd : Nat → List Nat) (tk : Nat → Option Nat) (E0 : List Nat) : Prop where
  ok : Ok ops m (fun k => (nd k).filter fun c => Nat.blt c 1000)
  big : ops.size ≤ 1000
  e0 : E0.Nodup
  tok : ∀ c ∈ E0, 1000 ≤ c ∧ tk c = none
  nodu : ∀ k, k < m → (nd k).Nodup
  has : ∀ k, k < m → ∀ c ∈ nd k, c < 1000 ∨ c ∈ E0
  tak : ∀ k, k < m → ∀ c, tk k = some c → c ∈ nd k ∧ c ≠ k ∧ ∀ j, j < m → j ≠ k → c ∈ nd j → j < k ∧ Anc ops k j
theorem OkT.mk' {ops : Array Oper} {m : Nat} {nd : Nat → List Nat} {tk : Nat → Option Nat} {E0 : List Nat} (h : drawOkT ops m nd tk E0 = true) : OkT ops m nd tk E0 := by
  unfold drawOkT at h
  simp only [Bool.and_eq_true, List.all_eq_true, beq_iff_eq, List.mem_range] at h
  obtain ⟨⟨⟨⟨h1, h2⟩, h3⟩, h4⟩, h5⟩ := h
  have blt_lt : ∀ {a b : Nat}, Nat.blt a b = true → a < b := fun h => Nat.le_of_ble_eq_true h
  refine ⟨Ok.mk' h1, Nat.le_of_ble_eq_true h2, eraseDups_nodup h3, fun c hc => ⟨Nat.le_of_ble_eq_true (h4 c hc).1, by simpa using (h4 c hc).2⟩, fun k hk => eraseDups_nodup (h5 k hk).1.1, fun k hk c hc => ?_, fun k hk c hc => ?_⟩
  · have := (h5 k hk).1.2 c hc
    simp only [Bool.or_eq_true, List.contains_eq_mem, decide_eq_true_eq] at this
    exact this.imp blt_lt id
  · have := (h5 k hk).2
    rw [hc] at this
    simp only [Bool.and_eq_true, List.contains_eq_mem, decide_eq_true_eq, List.all_eq_true, List.mem_range, Bool.or_eq_true, Bool.not_eq_true', decide_eq_false_iff_not] at this
    obtain ⟨⟨h6, h7⟩, h8⟩ := this
    refine ⟨h6, fun e => ?_, fun j hj hne hcj => ?_⟩
    · subst e
      simp [Nat.beq_refl] at h7
    · rcases h8 j hj with (h9 | h9) | h9
      · exact absurd (Nat.eq_of_beq_eq_true h9) hne
      · exact absurd hcj h9
      · exact ⟨blt_lt h9.1, bef_anc h9.2⟩

/-! ### Every order -/
section
variable {C : Ctx} {l : List Oper} {m : Nat} {nd : Nat → List Nat} {tk : Nat → Option Nat} {E0 : List Nat} {ex : Nat → Option (Value → List Res → Prop)} {σ : Env} {L0 : List Res} {K : Env → List Nat → Prop}
structure GoodT (C : Ctx) (l : List Oper) (m : Nat) (ex : Nat → Option (Value → List Res → Prop)) (nd : Nat → List Nat) (tk : Nat → Option Nat) (E0 : List Nat) (L0 : List Res) (σ : Env) (K : Got → Env → List Nat → Prop) (u : Got) (vs : List Value) : Prop where
  len : vs.length = (l.take m).length
  step : ∀ (i : Nat) (o : Oper) (v : Value), (l.take m)[i]? = some o → vs[i]? = some v → StepT C l.toArray ex nd tk u L0 i o (envAt ((l.take m).take i) (vs.take i) σ) (exAt l.toArray ex 0 ((l.take m).take i) (vs.take i) σ E0) v
  fin : K u (envAt (l.take m) vs σ) (exAt l.toArray ex 0 (l.take m) vs σ E0)
structure MidT (C : Ctx) (l : List Oper) (m : Nat) (ex : Nat → Option (Value → List Res → Prop)) (nd : Nat → List Nat) (tk : Nat → Option Nat) (E0 : List Nat) (L0 : List Res) (σ : Env) (K : Got → Env → List Nat → Prop) (listed : Array Bool) (u : Got) (Ex : List Nat) (a : Act) (w : World) : Prop where
  size : a.tmps.size = C.N
  valid : Valid ex u
  nodup : Ex.Nodup
  sub : ∀ c ∈ Ex, (c < m ∧ Ls listed c) ∨ c ∈ E0
  old : ∀ c ∈ E0, c ∈ Ex
  base : ∀ t, (∀ (j : Nat) (o : Oper), j < m → l[j]? = some o → Ls listed j → o.dst ≠ some t) → a.tmps.getD t undef = σ t
  vals : ∀ u', Valid ex u' → (∀ c ∈ Ex, u' c = u c) → ∀ vs, GoodT C l m ex nd tk E0 L0 σ K u' vs → ∀ (j : Nat) (o : Oper) (v : Value), j < m → l[j]? = some o → vs[j]? = some v → Ls listed j →
    (∀ t, o.dst = some t → a.tmps.getD t undef = v) ∧ (j ∈ Ex ↔ j ∈ exAt l.toArray ex 0 (l.take m) vs σ E0)
  heap : Hp C.w0 C.B (hid C a ++ needs u (liveT tk Ex) L0) w
theorem MidT.read {Kk : Got → Env → List Nat → Prop} {listed : Array Bool} {u : Got} {Ex : List Nat} {a : Act} {w : World} (ok : OkT l.toArray m nd tk E0) (h : MidT C l m ex nd tk E0 L0 σ Kk listed u Ex a w) (hc : Shut l.toArray listed) {i : Nat} (hi : i ∈ Region.ready .any l.toArray listed) (him : i < m) {o : Oper} (ho : l[i]? = some o)
    {u' : Got} (hu' : Valid ex u') (hag : ∀ c ∈ Ex, u' c = u c) {vs : List Value} (hg : GoodT C l m ex nd tk E0 L0 σ Kk u' vs) {t : Nat} (ht : ∀ (j : Nat) (o' : Oper), j < m → l[j]? = some o' → o'.dst = some t → j < i ∧ Anc l.toArray i j) :
    a.tmps.getD t undef = envAt ((l.take m).take i) (vs.take i) σ t := by
  by_cases hex : ∃ (j : Nat) (o' : Oper), j < m ∧ l[j]? = some o' ∧ o'.dst = some t
  · obtain ⟨j, o', hjm, hj, hd⟩ := hex
    obtain ⟨hlt, hanc⟩ := ht j o' hjm hj hd
    have hls := ready_anc hc hi hanc
    have hvl : j < vs.length := by
      rw [hg.len, List.length_take]
      have : j < l.length := (List.getElem?_eq_some_iff.1 hj).1
      omega
    have hv : vs[j]? = some vs[j] := List.getElem?_eq_getElem hvl
    rw [((h.vals u' hu' hag vs hg j o' _ hjm hj hv hls).1 t hd)]
    refine (envAt_one _ _ _ t j o' vs[j] ?_ ?_ hd ?_).symm
    · rw [List.getElem?_take, if_pos hlt]; exact take_get hjm hj
    · rw [List.getElem?_take, if_pos hlt]; exact hv
    · intro j' o'' hj' hne hd'
      obtain ⟨_, h2, h3⟩ := take_take_get hj'
      exact ok.ok.uniq j' o'' h2 (by simpa using h3) j o' hjm (by simpa using hj) (fun e => hne e.symm) t hd hd'
  · rw [h.base t (fun j o' hj ho' _ hd => hex ⟨j, o', hj, ho', hd⟩)]
    refine (envAt_none _ _ _ t fun j o' hj hd => ?_).symm
    obtain ⟨_, h2, h3⟩ := take_take_get hj
    exact hex ⟨j, o', h2, h3, hd⟩
theorem exAt_atT {vs : List Value} {i : Nat} {o : Oper} {v : Value} (hE : i ∉ E0) (ho : (l.take m)[i]? = some o) (hv : vs[i]? = some v) : i ∈ exAt l.toArray ex 0 (l.take m) vs σ E0 ↔ wants l.toArray (envAt ((l.take m).take i) (vs.take i) σ) o = true ∧ (ex i).isSome = true := by
  rw [exAt_mem]
  constructor
  · rintro (h | ⟨i', o', v', h1, h2, h3, h4, h5⟩)
    · exact absurd h hE
    · obtain rfl : i = i' := by omega
      rw [ho] at h1; cases h1
      exact ⟨h4, h5⟩
  · rintro ⟨h1, h2⟩
    exact .inr ⟨i, o, v, ho, hv, by omega, h1, h2⟩
theorem MidT.put {Kk : Got → Env → List Nat → Prop} {listed : Array Bool} {u u1 : Got} {Ex Ex1 : List Nat} {a : Act} {w w' : World} {i : Nat} {o : Oper} {v : Value} (ok : OkT l.toArray m nd tk E0) (h : MidT C l m ex nd tk E0 L0 σ Kk listed u Ex a w) (hlt : i < listed.size) (hi : ¬ Ls listed i) (him : i < m) (ho : l[i]? = some o) (hd : okDst C.N o.dst = true)
    (hv1 : Valid ex u1) (hnd : Ex1.Nodup) (hcase : (Ex1 = Ex ∧ u1 = u) ∨ (Ex1 = i :: Ex ∧ ∀ c ∈ Ex, u1 c = u c))
    (hvi : ∀ u', Valid ex u' → (∀ c ∈ Ex1, u' c = u1 c) → ∀ vs, GoodT C l m ex nd tk E0 L0 σ Kk u' vs → ∀ v', vs[i]? = some v' → v' = v ∧ (i ∈ Ex1 ↔ i ∈ exAt l.toArray ex 0 (l.take m) vs σ E0))
    (hh : Hp C.w0 C.B (hid C a ++ needs u1 (liveT tk Ex1) L0) w') : MidT C l m ex nd tk E0 L0 σ Kk (listed.setIfInBounds i true) u1 Ex1 (a.put o.dst v) w' := by
  refine ⟨by rw [put_size]; exact h.size, hv1, hnd, ?_, ?_, ?_, ?_, by rw [hid_put]; exact hh⟩
  · intro c hc
    rw [Ls.set_iff hlt]
    rcases hcase with ⟨rfl, _⟩ | ⟨rfl, _⟩
    · exact (h.sub c hc).imp (fun ⟨h1, h2⟩ => ⟨h1, .inr h2⟩) id
    · rcases List.mem_cons.1 hc with rfl | hc
      · exact .inl ⟨him, .inl rfl⟩
      · exact (h.sub c hc).imp (fun ⟨h1, h2⟩ => ⟨h1, .inr h2⟩) id
  · intro c hc
    rcases hcase with ⟨rfl, _⟩ | ⟨rfl, _⟩
    · exact h.old c hc
    · exact List.mem_cons_of_mem _ (h.old c hc)
  · intro t ht
    rw [put_read h.size hd, if_neg (ht i o him ho ((Ls.set_iff hlt).2 (.inl rfl)))]
    exact h.base t (fun j o' hj ho' hl => ht j o' hj ho' ((Ls.set_iff hlt).2 (.inr hl)))
  · intro u' hu' hag vs hg j o' v' hj ho' hv' hl
    have hag' : ∀ c ∈ Ex, u' c = u c := fun c hc => by
      rcases hcase with ⟨rfl, rfl⟩ | ⟨rfl, h2⟩
      · exact hag c hc
      · rw [hag c (by simp [hc]), h2 c hc]
    by_cases hij : j = i
    · subst hij
      rw [ho] at ho'; cases ho'
      obtain ⟨h1, h2⟩ := hvi u' hu' hag vs hg v' hv'
      subst h1
      exact ⟨fun t ht => by rw [put_read h.size hd, if_pos ht], h2⟩
    · rw [Ls.set_iff hlt] at hl
      have hl := hl.resolve_left hij
      obtain ⟨h1, h2⟩ := h.vals u' hu' hag' vs hg j o' v' hj ho' hv' hl
      refine ⟨fun t ht => ?_, ?_⟩
      · rw [put_read h.size hd, if_neg (ok.ok.uniq i o him (by simpa using ho) j o' hj (by simpa using ho') hij t ht)]
        exact h1 t ht
      · rw [← h2]
        rcases hcase with ⟨rfl, _⟩ | ⟨rfl, _⟩
        · exact Iff.rfl
        · simp [hij]
theorem live_perm {E E' : List Nat} (h : E.Perm E') : (liveT tk E).Perm (liveT tk E') := by
  unfold liveT
  have : (fun c => !(E.any fun k => decide (tk k = some c))) = fun c => !(E'.any fun k => decide (tk k = some c)) := by
    funext c
    congr 1
    rw [Bool.eq_iff_iff, List.any_eq_true, List.any_eq_true]
    exact ⟨fun ⟨k, h1, h2⟩ => ⟨k, h.mem_iff.1 h1, h2⟩, fun ⟨k, h1, h2⟩ => ⟨k, h.mem_iff.2 h1, h2⟩⟩
  rw [this]
  exact h.filter _
theorem needs_perm {u : Got} {E E' : List Nat} (h : E.Perm E') : (needs u E L0).Perm (needs u E' L0) := by
  unfold needs
  exact List.Perm.append_right _ (List.Perm.flatMap_right _ h)
theorem tail_anyT (ok : OkT l.toArray m nd tk E0) {F : Fence} {Q : Exit → Act → World → Prop} (fuel j : Nat) (listed : Array Bool) (a : Act) (w : World) (h1 : listed.size = l.length) (h2 : Shut l.toArray listed) (h3 : ∀ k, Ls listed k ↔ k < j) (h4 : m ≤ j) (h5 : j ≤ l.length) (h6 : l.length ≤ j + fuel)
    (h : wpListIn F 0 C.P l.toArray Q (l.drop j) a w) : wpAnyIn F 0 C.P .any l.toArray Q fuel listed a w := tail_any ok.ok fuel j listed a w h1 h2 h3 h4 h5 h6 h
theorem draw_endT {Q : Exit → Act → World → Prop} {Kk : Got → Env → List Nat → Prop} (ok : OkT l.toArray m nd tk E0) (hgood : ∀ u, Valid ex u → ∃ vs, GoodT C l m ex nd tk E0 L0 σ Kk u vs)
    (hK : ∀ u σ' E a w, Kk u σ' E → Agree a σ' → St C (needs u (liveT tk E) L0) a w → wpListIn (FR C.r) 0 C.P l.toArray Q (l.drop m) a w)
    (listed : Array Bool) (u : Got) (Ex : List Nat) (a : Act) (w : World) (fuel : Nat) (hs : listed.size = l.length) (hc : Shut l.toArray listed) (hm : ∀ k, Ls listed k → k < m) (hall : ∀ j, j < m → Ls listed j) (hf : l.length ≤ m + fuel)
    (h : MidT C l m ex nd tk E0 L0 σ Kk listed u Ex a w) : wpAnyIn (FR C.r) 0 C.P .any l.toArray Q fuel listed a w := by
  have hml : m ≤ l.length := by simpa using ok.ok.le
  have hbig : l.length ≤ 1000 := by simpa using ok.big
  obtain ⟨vs, hg⟩ := hgood u h.valid
  have hvl : vs.length = m := by rw [hg.len, List.length_take]; omega
  refine tail_anyT ok fuel m listed a w hs hc (fun k => ⟨hm k, hall k⟩) (Nat.le_refl _) hml hf ?_
  refine hK u _ _ a w hg.fin ?_ ⟨h.size, ?_⟩
  · intro t
    by_cases hex : ∃ (j : Nat) (o' : Oper), j < m ∧ l[j]? = some o' ∧ o'.dst = some t
    · obtain ⟨j, o', hjm, hj, hd⟩ := hex
      have hv : vs[j]? = some (vs[j]'(by omega)) := List.getElem?_eq_getElem (by omega)
      rw [(h.vals u h.valid (fun _ _ => rfl) vs hg j o' _ hjm hj hv (hall j hjm)).1 t hd]
      refine (envAt_one _ _ _ t j o' _ (take_get hjm hj) hv hd ?_).symm
      intro j' o'' hj' hne hd'
      obtain ⟨h2, h3⟩ := get_take hj'
      exact ok.ok.uniq j' o'' h2 (by simpa using h3) j o' hjm (by simpa using hj) (fun e => hne e.symm) t hd hd'
    · rw [h.base t (fun j o' hj ho' _ hd => hex ⟨j, o', hj, ho', hd⟩)]
      refine (envAt_none _ _ _ t fun j o' hj hd => ?_).symm
      obtain ⟨h2, h3⟩ := get_take hj
      exact hex ⟨j, o', h2, h3, hd⟩
  · refine h.heap.perm (List.Perm.append_left _ (needs_perm (live_perm ?_)))
    refine (List.perm_ext_iff_of_nodup h.nodup (exAt_nodupT _ _ _ _ _ ok.e0 (fun c hc => .inr (by have := (ok.tok c hc).1; simp; omega)))).2 fun c => ?_
    have key : ∀ c, c < m → (c ∈ Ex ↔ c ∈ exAt l.toArray ex 0 (l.take m) vs σ E0) := fun c hc =>
      (h.vals u h.valid (fun _ _ => rfl) vs hg c l[c] (vs[c]'(by omega)) hc (List.getElem?_eq_getElem (by omega)) (List.getElem?_eq_getElem (by omega)) (hall c hc)).2
    constructor
    · intro hcm
      rcases h.sub c hcm with h1 | h1
      · exact (key c h1.1).1 hcm
      · exact (exAt_mem _ _ _ _ _ _).2 (.inl h1)
    · intro hcm
      rcases (exAt_mem _ _ _ _ _ _).1 hcm with h0 | ⟨i, o, v, h1, _, h3, _⟩
      · exact h.old c h0
      · exact (key c (by have := (get_take h1).1; omega)).2 hcm
where
  exAt_nodupT : ∀ (l' : List Oper) (vs : List Value) (k : Nat) (σ : Env) (E : List Nat), E.Nodup → (∀ c ∈ E, c < k ∨ k + l'.length ≤ c) → (exAt l.toArray ex k l' vs σ E).Nodup
    | [], _, _, _, _, h, _ => by simpa [exAt] using h
    | _ :: _, [], _, _, _, h, _ => by simpa [exAt] using h
    | o :: l', v :: vs, k, σ, E, h, hk => by
      rw [exAt]
      simp only [List.length_cons] at hk
      refine exAt_nodupT l' vs (k + 1) _ _ ?_ ?_
      · unfold made; split
        · exact List.nodup_cons.2 ⟨fun hc => by rcases hk k hc with h' | h' <;> omega, h⟩
        · exact h
      · intro c hc
        unfold made at hc; split at hc
        · rcases List.mem_cons.1 hc with rfl | hc
          · omega
          · rcases hk c hc with h' | h' <;> omega
        · rcases hk c hc with h' | h' <;> omega
theorem draw_anyT {Q : Exit → Act → World → Prop} {Kk : Got → Env → List Nat → Prop} (ok : OkT l.toArray m nd tk E0) (hgood : ∀ u, Valid ex u → ∃ vs, GoodT C l m ex nd tk E0 L0 σ Kk u vs)
    (hK : ∀ u σ' E a w, Kk u σ' E → Agree a σ' → St C (needs u (liveT tk E) L0) a w → wpListIn (FR C.r) 0 C.P l.toArray Q (l.drop m) a w) :
    ∀ (fuel : Nat) (listed : Array Bool) (u : Got) (Ex : List Nat) (a : Act) (w : World), listed.size = l.length → Shut l.toArray listed → (∀ k, Ls listed k → k < m) → listed.toList.countP (fun b => !b) ≤ fuel →
      MidT C l m ex nd tk E0 L0 σ Kk listed u Ex a w → wpAnyIn (FR C.r) 0 C.P .any l.toArray Q fuel listed a w := by
  have hml : m ≤ l.length := by simpa using ok.ok.le
  have hbig : l.length ≤ 1000 := by simpa using ok.big
  have hnE : ∀ i, i < m → i ∉ E0 := fun i hi hE => by have := (ok.tok i hE).1; omega
  have hcount : ∀ (listed : Array Bool), listed.size = l.length → (∀ k, Ls listed k → k < m) → l.length - m ≤ listed.toList.countP (fun b => !b) := fun listed hs hm => by
    have h1 : (listed.toList.drop m).countP (fun b => !b) ≤ listed.toList.countP (fun b => !b) := (List.drop_sublist m _).countP_le
    have h2 : (listed.toList.drop m).countP (fun b => !b) = (listed.toList.drop m).length := by
      rw [List.countP_eq_length]
      intro b hb
      obtain ⟨j, hj⟩ := List.getElem?_of_mem hb
      rw [List.getElem?_drop] at hj
      cases b with
      | false => rfl
      | true =>
        have : Ls listed (m + j) := by
          unfold Ls
          rw [Array.getD_eq_getD_getElem?, ← Array.getElem?_toList, hj]; rfl
        have := hm _ this
        omega
    rw [List.length_drop, Array.length_toList, hs] at h2
    omega
  intro fuel
  induction fuel with
  | zero =>
    intro listed u Ex a w hs hc hm hcnt h
    have hml' := hcount listed hs hm
    refine draw_endT ok hgood hK listed u Ex a w 0 hs hc hm (fun j hj => ?_) (by omega) h
    have h0 : listed.toList.countP (fun b => !b) = 0 := by omega
    rw [List.countP_eq_zero] at h0
    have := h0 (listed[j]'(by omega)) (by simp)
    unfold Ls
    rw [Array.getD_eq_getD_getElem?, Array.getElem?_eq_getElem (by omega)]
    simpa using this
  | succ fuel ih =>
    intro listed u Ex a w hs hc hm hcnt h
    have hml' := hcount listed hs hm
    by_cases hall : ∀ j, j < m → Ls listed j
    · exact draw_endT ok hgood hK listed u Ex a w (fuel + 1) hs hc hm hall (by omega) h
    refine ⟨fun hr => absurd (fun j hj => all_listed ok.ok (by simpa using hs) hr j (by simp; omega)) hall, fun i hi => ?_⟩
    obtain ⟨h1, o, ho', _⟩ := mem_ready.1 hi
    have ho : l[i]? = some o := by simpa using ho'
    have hil : i < l.length := (List.getElem?_eq_some_iff.1 ho).1
    have hni : ¬ Ls listed i := (not_ls (by omega)).2 h1
    have him : i < m := by
      rcases Nat.lt_or_ge i m with h' | h'
      · exact h'
      · exact absurd (fun j hj => ready_anc hc hi (ok.ok.tail i o h' ho' j (by omega))) hall
    have hc' := hc.set hi (by omega)
    have hm' : ∀ k, Ls (listed.setIfInBounds i true) k → k < m := fun k hk => by
      rcases (Ls.set_iff (by omega)).1 hk with rfl | hk
      · exact him
      · exact hm k hk
    have hcnt' : (listed.setIfInBounds i true).toList.countP (fun b => !b) ≤ fuel := by
      have hb : listed.toList[i]'(by simp; omega) = false := by
        have := h1
        rw [Array.getD_eq_getD_getElem?, Array.getElem?_eq_getElem (by omega)] at this
        simpa using this
      have hpos : 0 < listed.toList.countP (fun b => !b) := List.countP_pos_iff.2 ⟨false, by rw [← hb]; exact List.getElem_mem _, rfl⟩
      have e := List.countP_set (p := fun b : Bool => !b) (l := listed.toList) (i := i) (a := true) (by simp; omega)
      rw [hb] at e
      rw [Array.toList_setIfInBounds, e]
      show _ - 1 + 0 ≤ fuel
      omega
    have goOn := fun u1 Ex1 a1 w1 => ih (listed.setIfInBounds i true) u1 Ex1 a1 w1 (by simpa using hs) hc' hm' hcnt'
    have hread : ∀ u', Valid ex u' → (∀ c ∈ Ex, u' c = u c) → ∀ vs, GoodT C l m ex nd tk E0 L0 σ Kk u' vs → (∀ x ∈ o.op.operands, ev (fun t => a.tmps.getD t undef) x = ev (envAt ((l.take m).take i) (vs.take i) σ) x) ∧ wants l.toArray (fun t => a.tmps.getD t undef) o = wants l.toArray (envAt ((l.take m).take i) (vs.take i) σ) o := fun u' hu' hag vs hg => by
      refine ⟨fun x hx => ?_, wants_congr fun g b hgd tg htg => ?_⟩
      · cases x with
        | tmp t => exact h.read ok hc hi him ho hu' hag hg (fun j o' hj hjo hd => ok.ok.look i o him ho' j o' hj (by simpa using hjo) t hd hx)
        | _ => rfl
      · exact h.read ok hc hi him ho hu' hag hg (fun j o' hj hjo hd => ok.ok.gard i o him ho' g b hgd tg htg j o' hj (by simpa using hjo) hd)
    have hexec : ∀ u', Valid ex u' → (∀ c ∈ Ex, u' c = u c) → ∀ vs, GoodT C l m ex nd tk E0 L0 σ Kk u' vs → execOp (ev (fun t => a.tmps.getD t undef)) o = execOp (ev (envAt ((l.take m).take i) (vs.take i) σ)) o := fun u' hu' hag vs hg =>
      execOp_congr o (ok.ok.sel i o ho') (hread u' hu' hag vs hg).1
    have hat : ∀ vs : List Value, vs.length = (l.take m).length → ∃ v, vs[i]? = some v := fun vs hl => ⟨vs[i]'(by rw [hl, List.length_take]; omega), List.getElem?_eq_getElem _⟩
    -- no one who has run takes what i reads, but i itself
    have hfree : ∀ c ∈ nd i, ∀ k ∈ Ex, tk k ≠ some c := fun c hcn k hk hkc => by
      rcases h.sub k hk with ⟨hkm, hkl⟩ | hk0
      · have h2 := ok.tak k hkm c hkc
        have hki : i ≠ k := fun e => hni (e ▸ hkl)
        have h3 := (h2.2.2 i him hki hcn).2
        exact hni (anc_in (D := Ls listed) hc h3 (hc k hkl))
      · rw [(ok.tok k hk0).2] at hkc; cases hkc
    have hneed : ∀ u' vs, Valid ex u' → (∀ c ∈ Ex, u' c = u c) → GoodT C l m ex nd tk E0 L0 σ Kk u' vs → (∀ c ∈ nd i, c ∈ liveT tk (exAt l.toArray ex 0 ((l.take m).take i) (vs.take i) σ E0)) →
        ∃ Rl : List Nat, (liveT tk Ex).Perm (nd i ++ Rl) ∧ Hp C.w0 C.B ((hid C a ++ Rl.flatMap fun c => (u c).2) ++ needs u' (nd i) L0) w := fun u' vs hu' hag hg hn => by
      have hsub : ∀ c ∈ nd i, c ∈ liveT tk Ex := fun c hcn => by
        refine mem_liveT.2 ⟨?_, hfree c hcn⟩
        rcases ok.has i him c hcn with hc1 | hc1
        · have hcn' : c ∈ (nd i).filter fun c => Nat.blt c 1000 := List.mem_filter.2 ⟨hcn, Nat.ble_eq_true_of_le hc1⟩
          have hcl := ready_anc hc hi (ok.ok.need i o him ho' c hcn').2
          have hci := (ok.ok.need i o him ho' c hcn').1
          have hcm : c < m := by omega
          obtain ⟨v, hv⟩ : ∃ v, vs[c]? = some v := ⟨vs[c]'(by rw [hg.len, List.length_take]; omega), List.getElem?_eq_getElem _⟩
          refine ((h.vals u' hu' hag vs hg c l[c] v hcm (List.getElem?_eq_getElem (by omega)) hv hcl).2).2 ?_
          rcases (exAt_mem _ _ _ _ _ _).1 (mem_liveT.1 (hn c hcn)).1 with h0 | ⟨j, o', v', h2, h3, h4, h5, h6⟩
          · have := (ok.tok c h0).1; omega
          · obtain ⟨hji, hjm, hjl⟩ := take_take_get h2
            refine (exAt_mem _ _ _ _ _ _).2 (.inr ⟨j, o', v', take_get hjm hjl, ?_, h4, ?_, h6⟩)
            · rw [List.getElem?_take, if_pos hji] at h3; exact h3
            · have e1 : ((l.take m).take i).take j = (l.take m).take j := by rw [List.take_take, Nat.min_eq_left (by omega)]
              have e2 : (vs.take i).take j = vs.take j := by rw [List.take_take, Nat.min_eq_left (by omega)]
              rw [e1, e2] at h5; exact h5
        · exact h.old c hc1
      have hnd : (liveT tk Ex).Nodup := h.nodup.filter _
      obtain ⟨R, hp⟩ := perm_needs hsub (ok.nodu i him) hnd
      have hfl : ∀ E : List Nat, (∀ c ∈ E, c ∈ Ex) → E.flatMap (fun c => (u c).2) = E.flatMap (fun c => (u' c).2) := fun E hE => by
        induction E with
        | nil => rfl
        | cons c E ihE =>
          rw [List.flatMap_cons, List.flatMap_cons, hag c (hE c (by simp)), ihE (fun d hd => hE d (by simp [hd]))]
      have hpp : (needs u (liveT tk Ex) L0).Perm ((R.flatMap fun c => (u c).2) ++ needs u' (nd i) L0) := by
        unfold needs
        rw [← hfl (nd i) (fun c hcn => (mem_liveT.1 (hsub c hcn)).1), ← List.append_assoc]
        refine List.Perm.append_right _ ((List.Perm.flatMap_right _ hp).trans ?_)
        rw [List.flatMap_append]
        exact List.perm_append_comm
      refine ⟨R, hp, h.heap.perm ?_⟩
      rw [List.append_assoc]
      exact List.Perm.append_left _ hpp
    obtain ⟨vs, hg⟩ := hgood u h.valid
    obtain ⟨v, hv⟩ := hat vs hg.len
    have hstep := hg.step i o v (take_get him ho) hv
    obtain ⟨hd, hstep⟩ := hstep
    unfold wpOpIn
    rw [ho']
    simp only
    rcases hstep with ⟨hw, hn, hcase⟩ | ⟨hw, rfl⟩
    · rw [if_pos (wanted_eq (Agree.refl a) (by rw [(hread u h.valid (fun _ _ => rfl) vs hg).2]; exact hw))]
      obtain ⟨R, hp, hhp⟩ := hneed u vs h.valid (fun _ _ => rfl) hg hn
      rcases hcase with ⟨V, hx, rfl, hsp⟩ | ⟨hx, hsd⟩
      · have hgo := hsp _ w hhp
        rw [← hexec u h.valid (fun _ _ => rfl) vs hg] at hgo
        refine hgo.wpIn (Agree.refl a) ?_
        rintro v' w' ⟨L', hh', T, rfl, hV⟩
        have hniE : i ∉ Ex := fun hiE => by
          rcases h.sub i hiE with h2 | h2
          · exact hni h2.2
          · exact hnE i him h2
        have hval : Valid ex (fun c => if c = i then (v', T) else u c) := fun k V' hk => by
          by_cases hki : k = i
          · subst hki; rw [hx] at hk; cases hk; simpa using hV
          · simp only [if_neg hki]; exact h.valid k V' hk
        have hsame : ∀ c ∈ Ex, (if c = i then (v', T) else u c) = u c := fun c hcE => if_neg (fun e : c = i => hniE (e ▸ hcE))
        refine goOn (fun c => if c = i then (v', T) else u c) (i :: Ex) _ _ ?_
        refine h.put ok (by omega) hni him ho hd hval (List.nodup_cons.2 ⟨hniE, h.nodup⟩) (.inr ⟨rfl, hsame⟩) ?_ ?_
        · intro u' hu' hag vs' hg' v2 hv2
          have hag' : ∀ c ∈ Ex, u' c = u c := fun c hcE => by rw [hag c (by simp [hcE]), hsame c hcE]
          obtain ⟨_, hs2⟩ := hg'.step i o v2 (take_get him ho) hv2
          have hw2 : wants l.toArray (envAt ((l.take m).take i) (vs'.take i) σ) o = true := by
            rw [← (hread u' hu' hag' vs' hg').2, (hread u h.valid (fun _ _ => rfl) vs hg).2]; exact hw
          refine ⟨?_, by simp [exAt_atT (hnE i him) (take_get him ho) hv2, hw2, hx]⟩
          rcases hs2 with ⟨_, _, ⟨V2, hx2, rfl, _⟩ | ⟨hx2, _⟩⟩ | ⟨hw3, _⟩
          · have := hag i (by simp)
            rw [this]; simp
          · rw [hx] at hx2; cases hx2
          · rw [hw2] at hw3; cases hw3
        · refine hh'.perm ?_
          rw [List.append_assoc]
          refine List.Perm.append_left _ ?_
          -- what lives behind it
          have hlive : (liveT tk (i :: Ex)).Perm (i :: ((nd i).filter (fun c => !decide (tk i = some c)) ++ R)) := by
            have e0 : liveT tk (i :: Ex) = i :: (liveT tk Ex).filter (fun c => !decide (tk i = some c)) := by
              unfold liveT
              have hii : (!((i :: Ex).any fun k => decide (tk k = some i))) = true := by
                simp only [Bool.not_eq_true', List.any_eq_false, List.mem_cons, decide_eq_true_eq]
                rintro k (rfl | hk) hkc
                · exact (ok.tak _ him _ hkc).2.1 rfl
                · rcases h.sub k hk with ⟨hkm, hkl⟩ | hk0
                  · have h2 := ok.tak k hkm i hkc
                    have h4 : i ∈ (nd k).filter fun c => Nat.blt c 1000 := List.mem_filter.2 ⟨h2.1, Nat.ble_eq_true_of_le (by omega)⟩
                    obtain ⟨ok', hok'⟩ : ∃ o', l[k]? = some o' := ⟨l[k]'(by omega), List.getElem?_eq_getElem (by omega)⟩
                    have h3 := (ok.ok.need k ok' hkm (by simpa using hok') i h4).2
                    exact hni (anc_in (D := Ls listed) hc h3 (hc k hkl))
                  · rw [(ok.tok k hk0).2] at hkc; cases hkc
              rw [List.filter_cons, if_pos hii]
              congr 1
              rw [List.filter_filter]
              apply List.filter_congr
              intro c _
              simp only [List.any_cons, Bool.not_or]
            rw [e0]
            refine List.Perm.cons _ ?_
            refine (hp.filter _).trans ?_
            rw [List.filter_append]
            refine List.Perm.append_left _ ?_
            have : R.filter (fun c => !decide (tk i = some c)) = R := by
              rw [List.filter_eq_self]
              intro c hcR
              simp only [Bool.not_eq_true', decide_eq_false_iff_not]
              intro hkc
              have h2 := (ok.tak i him c hkc).1
              have hnd : (nd i ++ R).Nodup := hp.nodup_iff.1 (h.nodup.filter _)
              exact (List.nodup_append.1 hnd).2.2 c h2 c hcR rfl
            rw [this]
          have hRE : ∀ c ∈ (nd i).filter (fun c => !decide (tk i = some c)) ++ R, c ∈ Ex := fun c hcc => by
            have : c ∈ nd i ++ R := by
              rcases List.mem_append.1 hcc with h2 | h2
              · exact List.mem_append_left _ (List.mem_filter.1 h2).1
              · exact List.mem_append_right _ h2
            exact (mem_liveT.1 (hp.mem_iff.2 this)).1
          have e1 : ∀ E : List Nat, (∀ c ∈ E, c ∈ Ex) → E.flatMap (fun c => (if c = i then (v', T) else u c).2) = E.flatMap (fun c => (u c).2) := fun E hE => by
            induction E with
            | nil => rfl
            | cons c E ihE => rw [List.flatMap_cons, List.flatMap_cons, hsame c (hE c (by simp)), ihE (fun d hd => hE d (by simp [hd]))]
          have e2 : needs (fun c => if c = i then (v', T) else u c) (i :: ((nd i).filter (fun c => !decide (tk i = some c)) ++ R)) L0 = T ++ (((nd i).filter (fun c => !decide (tk i = some c))).flatMap (fun c => (u c).2) ++ (R.flatMap (fun c => (u c).2) ++ L0)) := by
            unfold needs
            rw [List.flatMap_cons, e1 _ hRE, List.flatMap_append]
            simp
          refine List.Perm.trans ?_ (needs_perm hlive.symm)
          rw [e2]
          unfold needs
          refine List.Perm.trans List.perm_append_comm ?_
          rw [List.append_assoc, List.append_assoc]
          refine List.Perm.append_left _ (List.Perm.append_left _ List.perm_append_comm)
      · have hrun := hsd _ w hhp
        rw [← hexec u h.valid (fun _ _ => rfl) vs hg] at hrun
        have hgo : Goes C.P ((execOp (ev (fun t => a.tmps.getD t undef)) o).run C.P w) (fun v' w' => v' = v ∧ w' = w) := .inl ⟨v, w, hrun, rfl, rfl⟩
        refine hgo.wpIn (Agree.refl a) ?_
        rintro v' w' ⟨rfl, rfl⟩
        have hniE : i ∉ Ex := fun hiE => by
          rcases h.sub i hiE with h2 | h2
          · exact hni h2.2
          · exact hnE i him h2
        refine goOn u Ex _ _ (h.put ok (by omega) hni him ho hd h.valid h.nodup (.inl ⟨rfl, rfl⟩) ?_ h.heap)
        intro u' hu' hag vs' hg' v2 hv2
        obtain ⟨_, hs2⟩ := hg'.step i o v2 (take_get him ho) hv2
        have hw2 : wants l.toArray (envAt ((l.take m).take i) (vs'.take i) σ) o = true := by
          rw [← (hread u' hu' hag vs' hg').2, (hread u h.valid (fun _ _ => rfl) vs hg).2]; exact hw
        refine ⟨?_, by simp [exAt_atT (hnE i him) (take_get him ho) hv2, hx, hniE]⟩
        rcases hs2 with ⟨_, hn2, ⟨V2, hx2, _, _⟩ | ⟨_, hsd2⟩⟩ | ⟨hw3, _⟩
        · rw [hx] at hx2; cases hx2
        · obtain ⟨R2, _, hhp2⟩ := hneed u' vs' hu' hag hg' hn2
          have hrun2 := hsd2 _ w' hhp2
          rw [← hexec u' hu' hag vs' hg', hrun] at hrun2
          injection hrun2 with h5
          injection h5 with h5
          exact h5.symm
        · rw [hw2] at hw3; cases hw3
    · rw [if_neg (by rw [wanted_ne (Agree.refl a) (by rw [(hread u h.valid (fun _ _ => rfl) vs hg).2]; exact hw)]; simp)]
      have hniE : i ∉ Ex := fun hiE => by
        rcases h.sub i hiE with h2 | h2
        · exact hni h2.2
        · exact hnE i him h2
      refine ⟨fun _ _ => trivial, goOn u Ex _ _ (h.put ok (by omega) hni him ho hd h.valid h.nodup (.inl ⟨rfl, rfl⟩) ?_ h.heap)⟩
      intro u' hu' hag vs' hg' v2 hv2
      obtain ⟨_, hs2⟩ := hg'.step i o v2 (take_get him ho) hv2
      have hw2 : wants l.toArray (envAt ((l.take m).take i) (vs'.take i) σ) o = false := by
        rw [← (hread u' hu' hag vs' hg').2, (hread u h.valid (fun _ _ => rfl) vs hg).2]; exact hw
      refine ⟨?_, by simp [exAt_atT (hnE i him) (take_get him ho) hv2, hw2, hniE]⟩
      rcases hs2 with ⟨hw3, _⟩ | ⟨_, h5⟩
      · rw [hw2] at hw3; cases hw3
      · exact h5
end
/-- **A REGION WHOSE ORDER IS DRAWN**, what was there in tokens E0: token c holds T0 c. -/
theorem Cd.drawT {C : Ctx} {Q : Exit → Env → List Res → Prop} {id : Nat} {l : List Oper} {σ : Env} {L L0 : List Res} (hm : C.P.follows .mixedOrders = true) (m : Nat) (ex : Nat → Option (Value → List Res → Prop)) (nd : Nat → List Nat) (tk : Nat → Option Nat) (E0 : List Nat) (T0 : Nat → List Res) (hok : drawOkT l.toArray m nd tk E0 = true)
    (hL : L.Perm (E0.flatMap T0 ++ L0)) (hex : ∀ c ∈ E0, ex c = some (fun v R => v = undef ∧ R = T0 c)) (hin : ∀ k V, ex k = some V → ∃ v R, V v R)
    (h : ∀ u : Got, Valid ex u → (∀ c ∈ E0, u c = (undef, T0 c)) → WkT C l.toArray ex nd tk u L0 0 (l.take m) σ E0 (fun σ' E => Ol C l.toArray (l.drop m) (fun σ L => Q .normal σ L) σ' (needs u (liveT tk E) L0))) :
    Cd C (.region id l.toArray true) Q σ L := by
  intro a w ha hs
  refine wpIn_region_any hm ?_
  have ok : OkT l.toArray m nd tk E0 := OkT.mk' hok
  have hu0e : ∀ u, Valid ex u → ∀ c ∈ E0, u c = (undef, T0 c) := fun u hu c hc => by
    obtain ⟨h1, h2⟩ := hu c _ (hex c hc)
    rw [← h1, ← h2]
  have hgood : ∀ u, Valid ex u → ∃ vs, GoodT C l m ex nd tk E0 L0 σ (fun u σ' E => Ol C l.toArray (l.drop m) (fun σ L => Q .normal σ L) σ' (needs u (liveT tk E) L0)) u vs := fun u hu => by
    obtain ⟨vs, h1, h2, h3⟩ := (h u hu (hu0e u hu)).vals
    exact ⟨vs, h1, fun i o v hi hv => by simpa using h2 i o v hi hv, h3⟩
  have hu0 : ∃ u : Got, Valid ex u := by
    refine ⟨fun k => match hx : ex k with
      | some V => (Classical.choose (hin k V hx), Classical.choose (Classical.choose_spec (hin k V hx)))
      | none => (undef, []), fun k V hk => ?_⟩
    have := Classical.choose_spec (Classical.choose_spec (hin k V hk))
    simp only
    split
    · rename_i V' hx
      rw [hk] at hx
      cases hx
      exact this
    · rename_i hx; rw [hk] at hx; cases hx
  obtain ⟨u, hu⟩ := hu0
  have hlive : liveT tk E0 = E0 := by
    unfold liveT
    rw [List.filter_eq_self]
    intro c _
    simp only [Bool.not_eq_true', List.any_eq_false, decide_eq_true_eq]
    intro k hk hkc
    rw [(ok.tok k hk).2] at hkc; cases hkc
  have hneeds : needs u E0 L0 = E0.flatMap T0 ++ L0 := by
    unfold needs
    congr 1
    have : ∀ E : List Nat, (∀ c ∈ E, c ∈ E0) → E.flatMap (fun c => (u c).2) = E.flatMap T0 := fun E hE => by
      induction E with
      | nil => rfl
      | cons c E ihE => rw [List.flatMap_cons, List.flatMap_cons, hu0e u hu c (hE c (by simp)), ihE (fun d hd => hE d (by simp [hd]))]
    exact this E0 (fun _ h => h)
  refine draw_anyT (nd := nd) (tk := tk) (E0 := E0) (ex := ex) (σ := σ) (L0 := L0) ok hgood (fun u σ' E a w hk ha hs => hk a w _ ha hs fun a' w' σ'' L' h1 h2 h3 => ⟨σ'', L', h1, h2, h3⟩) l.toArray.size (Array.replicate l.toArray.size false) u E0 a _ (by simp) ?_ ?_ ?_ ⟨hs.size, hu, ok.e0, fun c hc => .inr hc, fun c hc => hc, fun t _ => ha t, ?_, ?_⟩
  · intro k hk
    exact (ls_rep hk).elim
  · intro k hk
    exact (ls_rep hk).elim
  · simp only [Array.toList_replicate]
    exact Nat.le_trans List.countP_le_length (by simp)
  · intro u' _ _ vs _ j o v _ _ _ hl
    exact (ls_rep hl).elim
  · rw [hlive, hneeds]
    exact (hs.heap.step (Stp.drew w)).perm (List.Perm.append_left _ hL)
/-! ### The walk's steps -/
section
variable {C : Ctx} {all : Array Oper} {ex : Nat → Option (Value → List Res → Prop)} {nd : Nat → List Nat} {tk : Nat → Option Nat} {u : Got} {L0 : List Res} {k : Nat} {rest : List Oper} {σ : Env} {E : List Nat} {K : Env → List Nat → Prop} {op : Op} {d : Option Nat} {ty : TypeId} {pos : String} {af : Array Edge} {gd : Option (Nat × Bool)} {v : Value}
theorem WkT.nil (h : K σ E) : WkT C all ex nd tk u L0 k [] σ E K := h
theorem WkT.goN {l : List Nat} (hw : wants all σ ⟨d, op, ty, pos, af, gd⟩ = true) (h : Sd C.P C.w0 C.B ⟨d, op, ty, pos, af, gd⟩ σ (needs u l L0) v) (hk : WkT C all ex nd tk u L0 (k + 1) rest (updO σ d v) E K)
    (hd : okDst C.N d = true) (hx : ex k = none) (hn : nd k = l) (hE : ∀ c ∈ l, c ∈ liveT tk E) : WkT C all ex nd tk u L0 k (⟨d, op, ty, pos, af, gd⟩ :: rest) σ E K := by
  unfold WkT
  simp only [hw, cond_true, hx, hn]
  exact ⟨hE, hd, v, h, hk⟩
theorem WkT.goX {l l2 : List Nat} {V : Value → List Res → Prop} (hw : wants all σ ⟨d, op, ty, pos, af, gd⟩ = true) (hu : Valid ex u) (hx : ex k = some V) (hn : nd k = l) (h2 : (l.filter fun c => !decide (tk k = some c)) = l2) (hE : ∀ c ∈ l, c ∈ liveT tk E)
    (h : Sp C.P C.w0 C.B ⟨d, op, ty, pos, af, gd⟩ σ (needs u l L0) (Adds V (needs u l2 L0))) (hk : ∀ v T, u k = (v, T) → V v T → WkT C all ex nd tk u L0 (k + 1) rest (updO σ d v) (k :: E) K)
    (hd : okDst C.N d = true) : WkT C all ex nd tk u L0 k (⟨d, op, ty, pos, af, gd⟩ :: rest) σ E K := by
  unfold WkT
  simp only [hw, cond_true, hx, hn, h2]
  exact ⟨hE, hd, h, hk _ _ rfl (hu k V hx)⟩
theorem WkT.p (h : Sd C.P C.w0 C.B ⟨d, op, ty, pos, af, none⟩ σ L0 v) (hk : WkT C all ex nd tk u L0 (k + 1) rest (updO σ d v) E K) (hd : okDst C.N d = true := by rfl) (hx : ex k = none := by rfl) (hn : nd k = [] := by rfl) :
    WkT C all ex nd tk u L0 k (⟨d, op, ty, pos, af, none⟩ :: rest) σ E K := WkT.goN (l := []) rfl h hk hd hx hn (fun c h => by cases h)
theorem WkT.pn {l : List Nat} (hn : nd k = l) (hE : (l.all fun c => (liveT tk E).contains c) = true) (h : Sd C.P C.w0 C.B ⟨d, op, ty, pos, af, none⟩ σ (needs u l L0) v) (hk : WkT C all ex nd tk u L0 (k + 1) rest (updO σ d v) E K) (hd : okDst C.N d = true := by rfl) (hx : ex k = none := by rfl) :
    WkT C all ex nd tk u L0 k (⟨d, op, ty, pos, af, none⟩ :: rest) σ E K := WkT.goN rfl h hk hd hx hn (fun c hc => by simpa using List.all_eq_true.1 hE c hc)
theorem WkT.xn {l l2 : List Nat} {V : Value → List Res → Prop} (hu : Valid ex u) (hn : nd k = l) (h2 : (l.filter fun c => !decide (tk k = some c)) = l2) (hE : (l.all fun c => (liveT tk E).contains c) = true) (h : Sp C.P C.w0 C.B ⟨d, op, ty, pos, af, none⟩ σ (needs u l L0) (Adds V (needs u l2 L0))) (hk : ∀ v T, u k = (v, T) → V v T → WkT C all ex nd tk u L0 (k + 1) rest (updO σ d v) (k :: E) K)
    (hd : okDst C.N d = true := by rfl) (hx : ex k = some V := by rfl) : WkT C all ex nd tk u L0 k (⟨d, op, ty, pos, af, none⟩ :: rest) σ E K :=
  WkT.goX rfl hu hx hn h2 (fun c hc => by simpa using List.all_eq_true.1 hE c hc) h hk hd
end
end Go.Proofs.Ytbcnejobnmljlaa
