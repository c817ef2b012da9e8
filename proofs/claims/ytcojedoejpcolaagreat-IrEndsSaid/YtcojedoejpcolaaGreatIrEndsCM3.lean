/- Part 3 of the proof of IrEndsC: the texts DrawT, NRows, IrV, Flow, IrW, RefC, Que, Grow, Perm, Flow2, Flow3, Order, Struct, Law10, IrX, IrR, IrU, IrT, Bare, Same, TermEq, one behind the other. -/
import Derived.ArgAppend
import Derived.Laws.StructEq
import Derived.Test.YtcojedoejpcolaaGreatIrEndsCM2
/- A region whose order is drawn, in which an operation may take what another one made, or what was there (tokens), and turn it: one walk serves every order. -/
namespace Go.Proofs.YtcojedoejpcolaaGreat
set_option linter.unusedVariables false
open Go Go.RowKit

def liveT (tk : Nat → Option Nat) (E : List Nat) : List Nat := E.filter fun c => !(E.any fun k => decide (tk k = some c))
theorem mem_liveT {tk : Nat → Option Nat} {E : List Nat} {c : Nat} : c ∈ liveT tk E ↔ c ∈ E ∧ ∀ k ∈ E, tk k ≠ some c := by
  unfold liveT
  simp [List.mem_filter]
def WkT (C : Ctx) (all : Array Oper) (ex : Nat → Option (Value → List Res → Prop)) (nd : Nat → List Nat) (tk : Nat → Option Nat) (u : Got) (L0 : List Res) : Nat → List Oper → Env → List Nat → (Env → List Nat → Prop) → Prop
  | _, [], σ, E, K => K σ E
  | k, o :: rest, σ, E, K =>
    bif wants all σ o then
      (∀ c ∈ nd k, c ∈ liveT tk E) ∧ okDst C.N o.dst = true ∧
      match ex k with
      | some V => Sp C.P C.w0 C.B o σ (needs u (nd k) L0) (Adds V (needs u ((nd k).filter fun c => !decide (tk k = some c)) L0)) ∧ WkT C all ex nd tk u L0 (k + 1) rest (updO σ o.dst (u k).1) (k :: E) K
      | none => ∃ v, Sd C.P C.w0 C.B o σ (needs u (nd k) L0) v ∧ WkT C all ex nd tk u L0 (k + 1) rest (updO σ o.dst v) E K
    else okDst C.N o.dst = true ∧ WkT C all ex nd tk u L0 (k + 1) rest (updO σ o.dst undef) E K
def StepT (C : Ctx) (all : Array Oper) (ex : Nat → Option (Value → List Res → Prop)) (nd : Nat → List Nat) (tk : Nat → Option Nat) (u : Got) (L0 : List Res) (k : Nat) (o : Oper) (σ : Env) (E : List Nat) (v : Value) : Prop :=
  okDst C.N o.dst = true ∧
  ((wants all σ o = true ∧ (∀ c ∈ nd k, c ∈ liveT tk E) ∧ ((∃ V, ex k = some V ∧ v = (u k).1 ∧ Sp C.P C.w0 C.B o σ (needs u (nd k) L0) (Adds V (needs u ((nd k).filter fun c => !decide (tk k = some c)) L0))) ∨ (ex k = none ∧ Sd C.P C.w0 C.B o σ (needs u (nd k) L0) v))) ∨
   (wants all σ o = false ∧ v = undef))
theorem WkT.vals {C : Ctx} {all : Array Oper} {ex : Nat → Option (Value → List Res → Prop)} {nd : Nat → List Nat} {tk : Nat → Option Nat} {u : Got} {L0 : List Res} {K : Env → List Nat → Prop} :
    ∀ (l : List Oper) (k : Nat) (σ : Env) (E : List Nat), WkT C all ex nd tk u L0 k l σ E K →
      ∃ vs : List Value, vs.length = l.length ∧ (∀ i o v, l[i]? = some o → vs[i]? = some v → StepT C all ex nd tk u L0 (k + i) o (envAt (l.take i) (vs.take i) σ) (exAt all ex k (l.take i) (vs.take i) σ E) v) ∧ K (envAt l vs σ) (exAt all ex k l vs σ E)
  | [], k, σ, E, h => ⟨[], rfl, fun i o v h => by simp at h, h⟩
  | o :: l, k, σ, E, h => by
    have key : ∀ v E', StepT C all ex nd tk u L0 k o σ E v → E' = made all ex k o σ E → WkT C all ex nd tk u L0 (k + 1) l (updO σ o.dst v) E' K →
        ∃ vs : List Value, vs.length = (o :: l).length ∧ (∀ i o' v, (o :: l)[i]? = some o' → vs[i]? = some v → StepT C all ex nd tk u L0 (k + i) o' (envAt ((o :: l).take i) (vs.take i) σ) (exAt all ex k ((o :: l).take i) (vs.take i) σ E) v) ∧ K (envAt (o :: l) vs σ) (exAt all ex k (o :: l) vs σ E) := by
      rintro v E' hs rfl hw
      obtain ⟨vs, h1, h2, h3⟩ := WkT.vals l (k + 1) _ _ hw
      refine ⟨v :: vs, by simp [h1], ?_, h3⟩
      intro i o' v' hi hv
      cases i with
      | zero =>
        simp only [List.getElem?_cons_zero, Option.some.injEq] at hi hv
        subst hi; subst hv
        exact hs
      | succ i =>
        have := h2 i o' v' (by simpa using hi) (by simpa using hv)
        rw [show k + 1 + i = k + (i + 1) from by omega] at this
        exact this
    unfold WkT at h
    cases hw : wants all σ o with
    | true =>
      simp only [hw, cond_true] at h
      obtain ⟨hn, hd, h⟩ := h
      cases hx : ex k with
      | some V =>
        simp only [hx] at h
        exact key (u k).1 (k :: E) ⟨hd, .inl ⟨hw, hn, .inl ⟨V, hx, rfl, h.1⟩⟩⟩ (by simp [made, hw, hx]) h.2
      | none =>
        simp only [hx] at h
        obtain ⟨v, hs, h⟩ := h
        exact key v E ⟨hd, .inl ⟨hw, hn, .inr ⟨hx, hs⟩⟩⟩ (by simp [made, hx]) h
    | false =>
      simp only [hw, cond_false] at h
      exact key undef E ⟨h.1, .inr ⟨hw, rfl⟩⟩ (by simp [made, hw]) h.2

/-! ### What must be so: a closed test -/
def drawOkT (ops : Array Oper) (m : Nat) (nd : Nat → List Nat) (tk : Nat → Option Nat) (E0 : List Nat) : Bool :=
  let b := bef ops
  drawOk ops m (fun k => (nd k).filter fun c => Nat.blt c 1000) && Nat.ble ops.size 1000 && (E0.eraseDups.length == E0.length) && E0.all (fun c => Nat.ble 1000 c && (tk c).isNone) &&
  (List.range m).all fun k => ((nd k).eraseDups.length == (nd k).length) && (nd k).all (fun c => Nat.blt c 1000 || E0.contains c) &&
    match tk k with
    | none => true
    | some c => (nd k).contains c && !(Nat.beq c k) && (List.range m).all fun j => Nat.beq j k || !(nd j).contains c || (Nat.blt j k && (b.getD k 0).testBit j)
structure OkT (ops : Array Oper) (m : Nat) (nd : Nat → List Nat) (tk : Nat → Option Nat) (E0 : List Nat) : Prop where
  ok : Ok ops m (fun k => (nd k).filter fun c => Nat.blt c 1000)
  big : ops.size ≤ 1000
  e0 : E0.Nodup
  tok : ∀ c ∈ E0, 1000 ≤ c ∧ tk c = none
  nodu : ∀ k, k < m → (nd k).Nodup
  has : ∀ k, k < m → ∀ c ∈ nd k, c < 1000 ∨ c ∈ E0
  tak : ∀ k, k < m → ∀ c, tk k = some c → c ∈ nd k ∧ c ≠ k ∧ ∀ j, j < m → j ≠ k → c ∈ nd j → j < k ∧ Anc ops k j
theorem OkT.mk' {ops : Array Oper} {m : Nat} {nd : Nat → List Nat} {tk : Nat → Option Nat} {E0 : List Nat} (h : drawOkT ops m nd tk E0 = true) : OkT ops m nd tk E0 := by
  unfold drawOkT at h
  simp only [Bool.and_eq_true, List.all_eq_true, beq_iff_eq, List.mem_range] at h
  obtain ⟨⟨⟨⟨h1, h2⟩, h3⟩, h4⟩, h5⟩ := h
  have blt_lt : ∀ {a b : Nat}, Nat.blt a b = true → a < b := fun h => Nat.le_of_ble_eq_true h
  refine ⟨Ok.mk' h1, Nat.le_of_ble_eq_true h2, eraseDups_nodup h3, fun c hc => ⟨Nat.le_of_ble_eq_true (h4 c hc).1, by simpa using (h4 c hc).2⟩, fun k hk => eraseDups_nodup (h5 k hk).1.1, fun k hk c hc => ?_, fun k hk c hc => ?_⟩
  · have := (h5 k hk).1.2 c hc
    simp only [Bool.or_eq_true, List.contains_eq_mem, decide_eq_true_eq] at this
    exact this.imp blt_lt id
  · have := (h5 k hk).2
    rw [hc] at this
    simp only [Bool.and_eq_true, List.contains_eq_mem, decide_eq_true_eq, List.all_eq_true, List.mem_range, Bool.or_eq_true, Bool.not_eq_true', decide_eq_false_iff_not] at this
    obtain ⟨⟨h6, h7⟩, h8⟩ := this
    refine ⟨h6, fun e => ?_, fun j hj hne hcj => ?_⟩
    · subst e
      simp [Nat.beq_refl] at h7
    · rcases h8 j hj with (h9 | h9) | h9
      · exact absurd (Nat.eq_of_beq_eq_true h9) hne
      · exact absurd hcj h9
      · exact ⟨blt_lt h9.1, bef_anc h9.2⟩

/-! ### Every order -/
section
variable {C : Ctx} {l : List Oper} {m : Nat} {nd : Nat → List Nat} {tk : Nat → Option Nat} {E0 : List Nat} {ex : Nat → Option (Value → List Res → Prop)} {σ : Env} {L0 : List Res} {K : Env → List Nat → Prop}
structure GoodT (C : Ctx) (l : List Oper) (m : Nat) (ex : Nat → Option (Value → List Res → Prop)) (nd : Nat → List Nat) (tk : Nat → Option Nat) (E0 : List Nat) (L0 : List Res) (σ : Env) (K : Got → Env → List Nat → Prop) (u : Got) (vs : List Value) : Prop where
  len : vs.length = (l.take m).length
  step : ∀ (i : Nat) (o : Oper) (v : Value), (l.take m)[i]? = some o → vs[i]? = some v → StepT C l.toArray ex nd tk u L0 i o (envAt ((l.take m).take i) (vs.take i) σ) (exAt l.toArray ex 0 ((l.take m).take i) (vs.take i) σ E0) v
  fin : K u (envAt (l.take m) vs σ) (exAt l.toArray ex 0 (l.take m) vs σ E0)
structure MidT (C : Ctx) (l : List Oper) (m : Nat) (ex : Nat → Option (Value → List Res → Prop)) (nd : Nat → List Nat) (tk : Nat → Option Nat) (E0 : List Nat) (L0 : List Res) (σ : Env) (K : Got → Env → List Nat → Prop) (listed : Array Bool) (u : Got) (Ex : List Nat) (a : Act) (w : World) : Prop where
  size : a.tmps.size = C.N
  valid : Valid ex u
  nodup : Ex.Nodup
  sub : ∀ c ∈ Ex, (c < m ∧ Ls listed c) ∨ c ∈ E0
  old : ∀ c ∈ E0, c ∈ Ex
  base : ∀ t, (∀ (j : Nat) (o : Oper), j < m → l[j]? = some o → Ls listed j → o.dst ≠ some t) → a.tmps.getD t undef = σ t
  vals : ∀ u', Valid ex u' → (∀ c ∈ Ex, u' c = u c) → ∀ vs, GoodT C l m ex nd tk E0 L0 σ K u' vs → ∀ (j : Nat) (o : Oper) (v : Value), j < m → l[j]? = some o → vs[j]? = some v → Ls listed j →
    (∀ t, o.dst = some t → a.tmps.getD t undef = v) ∧ (j ∈ Ex ↔ j ∈ exAt l.toArray ex 0 (l.take m) vs σ E0)
  heap : Hp C.w0 C.B (hid C a ++ needs u (liveT tk Ex) L0) w
theorem MidT.read {Kk : Got → Env → List Nat → Prop} {listed : Array Bool} {u : Got} {Ex : List Nat} {a : Act} {w : World} (ok : OkT l.toArray m nd tk E0) (h : MidT C l m ex nd tk E0 L0 σ Kk listed u Ex a w) (hc : Shut l.toArray listed) {i : Nat} (hi : i ∈ Region.ready .any l.toArray listed) (him : i < m) {o : Oper} (ho : l[i]? = some o)
    {u' : Got} (hu' : Valid ex u') (hag : ∀ c ∈ Ex, u' c = u c) {vs : List Value} (hg : GoodT C l m ex nd tk E0 L0 σ Kk u' vs) {t : Nat} (ht : ∀ (j : Nat) (o' : Oper), j < m → l[j]? = some o' → o'.dst = some t → j < i ∧ Anc l.toArray i j) :
    a.tmps.getD t undef = envAt ((l.take m).take i) (vs.take i) σ t := by
  by_cases hex : ∃ (j : Nat) (o' : Oper), j < m ∧ l[j]? = some o' ∧ o'.dst = some t
  · obtain ⟨j, o', hjm, hj, hd⟩ := hex
    obtain ⟨hlt, hanc⟩ := ht j o' hjm hj hd
    have hls := ready_anc hc hi hanc
    have hvl : j < vs.length := by
      rw [hg.len, List.length_take]
      have : j < l.length := (List.getElem?_eq_some_iff.1 hj).1
      omega
    have hv : vs[j]? = some vs[j] := List.getElem?_eq_getElem hvl
    rw [((h.vals u' hu' hag vs hg j o' _ hjm hj hv hls).1 t hd)]
    refine (envAt_one _ _ _ t j o' vs[j] ?_ ?_ hd ?_).symm
    · rw [List.getElem?_take, if_pos hlt]; exact take_get hjm hj
    · rw [List.getElem?_take, if_pos hlt]; exact hv
    · intro j' o'' hj' hne hd'
      obtain ⟨_, h2, h3⟩ := take_take_get hj'
      exact ok.ok.uniq j' o'' h2 (by simpa using h3) j o' hjm (by simpa using hj) (fun e => hne e.symm) t hd hd'
  · rw [h.base t (fun j o' hj ho' _ hd => hex ⟨j, o', hj, ho', hd⟩)]
    refine (envAt_none _ _ _ t fun j o' hj hd => ?_).symm
    obtain ⟨_, h2, h3⟩ := take_take_get hj
    exact hex ⟨j, o', h2, h3, hd⟩
theorem exAt_atT {vs : List Value} {i : Nat} {o : Oper} {v : Value} (hE : i ∉ E0) (ho : (l.take m)[i]? = some o) (hv : vs[i]? = some v) : i ∈ exAt l.toArray ex 0 (l.take m) vs σ E0 ↔ wants l.toArray (envAt ((l.take m).take i) (vs.take i) σ) o = true ∧ (ex i).isSome = true := by
  rw [exAt_mem]
  constructor
  · rintro (h | ⟨i', o', v', h1, h2, h3, h4, h5⟩)
    · exact absurd h hE
    · obtain rfl : i = i' := by omega
      rw [ho] at h1; cases h1
      exact ⟨h4, h5⟩
  · rintro ⟨h1, h2⟩
    exact .inr ⟨i, o, v, ho, hv, by omega, h1, h2⟩
theorem MidT.put {Kk : Got → Env → List Nat → Prop} {listed : Array Bool} {u u1 : Got} {Ex Ex1 : List Nat} {a : Act} {w w' : World} {i : Nat} {o : Oper} {v : Value} (ok : OkT l.toArray m nd tk E0) (h : MidT C l m ex nd tk E0 L0 σ Kk listed u Ex a w) (hlt : i < listed.size) (hi : ¬ Ls listed i) (him : i < m) (ho : l[i]? = some o) (hd : okDst C.N o.dst = true)
    (hv1 : Valid ex u1) (hnd : Ex1.Nodup) (hcase : (Ex1 = Ex ∧ u1 = u) ∨ (Ex1 = i :: Ex ∧ ∀ c ∈ Ex, u1 c = u c))
    (hvi : ∀ u', Valid ex u' → (∀ c ∈ Ex1, u' c = u1 c) → ∀ vs, GoodT C l m ex nd tk E0 L0 σ Kk u' vs → ∀ v', vs[i]? = some v' → v' = v ∧ (i ∈ Ex1 ↔ i ∈ exAt l.toArray ex 0 (l.take m) vs σ E0))
    (hh : Hp C.w0 C.B (hid C a ++ needs u1 (liveT tk Ex1) L0) w') : MidT C l m ex nd tk E0 L0 σ Kk (listed.setIfInBounds i true) u1 Ex1 (a.put o.dst v) w' := by
  refine ⟨by rw [put_size]; exact h.size, hv1, hnd, ?_, ?_, ?_, ?_, by rw [hid_put]; exact hh⟩
  · intro c hc
    rw [Ls.set_iff hlt]
    rcases hcase with ⟨rfl, _⟩ | ⟨rfl, _⟩
    · exact (h.sub c hc).imp (fun ⟨h1, h2⟩ => ⟨h1, .inr h2⟩) id
    · rcases List.mem_cons.1 hc with rfl | hc
      · exact .inl ⟨him, .inl rfl⟩
      · exact (h.sub c hc).imp (fun ⟨h1, h2⟩ => ⟨h1, .inr h2⟩) id
  · intro c hc
    rcases hcase with ⟨rfl, _⟩ | ⟨rfl, _⟩
    · exact h.old c hc
    · exact List.mem_cons_of_mem _ (h.old c hc)
  · intro t ht
    rw [put_read h.size hd, if_neg (ht i o him ho ((Ls.set_iff hlt).2 (.inl rfl)))]
    exact h.base t (fun j o' hj ho' hl => ht j o' hj ho' ((Ls.set_iff hlt).2 (.inr hl)))
  · intro u' hu' hag vs hg j o' v' hj ho' hv' hl
    have hag' : ∀ c ∈ Ex, u' c = u c := fun c hc => by
      rcases hcase with ⟨rfl, rfl⟩ | ⟨rfl, h2⟩
      · exact hag c hc
      · rw [hag c (by simp [hc]), h2 c hc]
    by_cases hij : j = i
    · subst hij
      rw [ho] at ho'; cases ho'
      obtain ⟨h1, h2⟩ := hvi u' hu' hag vs hg v' hv'
      subst h1
      exact ⟨fun t ht => by rw [put_read h.size hd, if_pos ht], h2⟩
    · rw [Ls.set_iff hlt] at hl
      have hl := hl.resolve_left hij
      obtain ⟨h1, h2⟩ := h.vals u' hu' hag' vs hg j o' v' hj ho' hv' hl
      refine ⟨fun t ht => ?_, ?_⟩
      · rw [put_read h.size hd, if_neg (ok.ok.uniq i o him (by simpa using ho) j o' hj (by simpa using ho') hij t ht)]
        exact h1 t ht
      · rw [← h2]
        rcases hcase with ⟨rfl, _⟩ | ⟨rfl, _⟩
        · exact Iff.rfl
        · simp [hij]
theorem live_perm {E E' : List Nat} (h : E.Perm E') : (liveT tk E).Perm (liveT tk E') := by
  unfold liveT
  have : (fun c => !(E.any fun k => decide (tk k = some c))) = fun c => !(E'.any fun k => decide (tk k = some c)) := by
    funext c
    congr 1
    rw [Bool.eq_iff_iff, List.any_eq_true, List.any_eq_true]
    exact ⟨fun ⟨k, h1, h2⟩ => ⟨k, h.mem_iff.1 h1, h2⟩, fun ⟨k, h1, h2⟩ => ⟨k, h.mem_iff.2 h1, h2⟩⟩
  rw [this]
  exact h.filter _
theorem needs_perm {u : Got} {E E' : List Nat} (h : E.Perm E') : (needs u E L0).Perm (needs u E' L0) := by
  unfold needs
  exact List.Perm.append_right _ (List.Perm.flatMap_right _ h)
theorem tail_anyT (ok : OkT l.toArray m nd tk E0) {F : Fence} {Q : Exit → Act → World → Prop} (fuel j : Nat) (listed : Array Bool) (a : Act) (w : World) (h1 : listed.size = l.length) (h2 : Shut l.toArray listed) (h3 : ∀ k, Ls listed k ↔ k < j) (h4 : m ≤ j) (h5 : j ≤ l.length) (h6 : l.length ≤ j + fuel)
    (h : wpListIn F 0 C.P l.toArray Q (l.drop j) a w) : wpAnyIn F 0 C.P .any l.toArray Q fuel listed a w := tail_any ok.ok fuel j listed a w h1 h2 h3 h4 h5 h6 h
theorem draw_endT {Q : Exit → Act → World → Prop} {Kk : Got → Env → List Nat → Prop} (ok : OkT l.toArray m nd tk E0) (hgood : ∀ u, Valid ex u → ∃ vs, GoodT C l m ex nd tk E0 L0 σ Kk u vs)
    (hK : ∀ u σ' E a w, Kk u σ' E → Agree a σ' → St C (needs u (liveT tk E) L0) a w → wpListIn (FR C.r) 0 C.P l.toArray Q (l.drop m) a w)
    (listed : Array Bool) (u : Got) (Ex : List Nat) (a : Act) (w : World) (fuel : Nat) (hs : listed.size = l.length) (hc : Shut l.toArray listed) (hm : ∀ k, Ls listed k → k < m) (hall : ∀ j, j < m → Ls listed j) (hf : l.length ≤ m + fuel)
    (h : MidT C l m ex nd tk E0 L0 σ Kk listed u Ex a w) : wpAnyIn (FR C.r) 0 C.P .any l.toArray Q fuel listed a w := by
  have hml : m ≤ l.length := by simpa using ok.ok.le
  have hbig : l.length ≤ 1000 := by simpa using ok.big
  obtain ⟨vs, hg⟩ := hgood u h.valid
  have hvl : vs.length = m := by rw [hg.len, List.length_take]; omega
  refine tail_anyT ok fuel m listed a w hs hc (fun k => ⟨hm k, hall k⟩) (Nat.le_refl _) hml hf ?_
  refine hK u _ _ a w hg.fin ?_ ⟨h.size, ?_⟩
  · intro t
    by_cases hex : ∃ (j : Nat) (o' : Oper), j < m ∧ l[j]? = some o' ∧ o'.dst = some t
    · obtain ⟨j, o', hjm, hj, hd⟩ := hex
      have hv : vs[j]? = some (vs[j]'(by omega)) := List.getElem?_eq_getElem (by omega)
      rw [(h.vals u h.valid (fun _ _ => rfl) vs hg j o' _ hjm hj hv (hall j hjm)).1 t hd]
      refine (envAt_one _ _ _ t j o' _ (take_get hjm hj) hv hd ?_).symm
      intro j' o'' hj' hne hd'
      obtain ⟨h2, h3⟩ := get_take hj'
      exact ok.ok.uniq j' o'' h2 (by simpa using h3) j o' hjm (by simpa using hj) (fun e => hne e.symm) t hd hd'
    · rw [h.base t (fun j o' hj ho' _ hd => hex ⟨j, o', hj, ho', hd⟩)]
      refine (envAt_none _ _ _ t fun j o' hj hd => ?_).symm
      obtain ⟨h2, h3⟩ := get_take hj
      exact hex ⟨j, o', h2, h3, hd⟩
  · refine h.heap.perm (List.Perm.append_left _ (needs_perm (live_perm ?_)))
    refine (List.perm_ext_iff_of_nodup h.nodup (exAt_nodupT _ _ _ _ _ ok.e0 (fun c hc => .inr (by have := (ok.tok c hc).1; simp; omega)))).2 fun c => ?_
    have key : ∀ c, c < m → (c ∈ Ex ↔ c ∈ exAt l.toArray ex 0 (l.take m) vs σ E0) := fun c hc =>
      (h.vals u h.valid (fun _ _ => rfl) vs hg c l[c] (vs[c]'(by omega)) hc (List.getElem?_eq_getElem (by omega)) (List.getElem?_eq_getElem (by omega)) (hall c hc)).2
    constructor
    · intro hcm
      rcases h.sub c hcm with h1 | h1
      · exact (key c h1.1).1 hcm
      · exact (exAt_mem _ _ _ _ _ _).2 (.inl h1)
    · intro hcm
      rcases (exAt_mem _ _ _ _ _ _).1 hcm with h0 | ⟨i, o, v, h1, _, h3, _⟩
      · exact h.old c h0
      · exact (key c (by have := (get_take h1).1; omega)).2 hcm
where
  exAt_nodupT : ∀ (l' : List Oper) (vs : List Value) (k : Nat) (σ : Env) (E : List Nat), E.Nodup → (∀ c ∈ E, c < k ∨ k + l'.length ≤ c) → (exAt l.toArray ex k l' vs σ E).Nodup
    | [], _, _, _, _, h, _ => by simpa [exAt] using h
    | _ :: _, [], _, _, _, h, _ => by simpa [exAt] using h
    | o :: l', v :: vs, k, σ, E, h, hk => by
      rw [exAt]
      simp only [List.length_cons] at hk
      refine exAt_nodupT l' vs (k + 1) _ _ ?_ ?_
      · unfold made; split
        · exact List.nodup_cons.2 ⟨fun hc => by rcases hk k hc with h' | h' <;> omega, h⟩
        · exact h
      · intro c hc
        unfold made at hc; split at hc
        · rcases List.mem_cons.1 hc with rfl | hc
          · omega
          · rcases hk c hc with h' | h' <;> omega
        · rcases hk c hc with h' | h' <;> omega
theorem draw_anyT {Q : Exit → Act → World → Prop} {Kk : Got → Env → List Nat → Prop} (ok : OkT l.toArray m nd tk E0) (hgood : ∀ u, Valid ex u → ∃ vs, GoodT C l m ex nd tk E0 L0 σ Kk u vs)
    (hK : ∀ u σ' E a w, Kk u σ' E → Agree a σ' → St C (needs u (liveT tk E) L0) a w → wpListIn (FR C.r) 0 C.P l.toArray Q (l.drop m) a w) :
    ∀ (fuel : Nat) (listed : Array Bool) (u : Got) (Ex : List Nat) (a : Act) (w : World), listed.size = l.length → Shut l.toArray listed → (∀ k, Ls listed k → k < m) → listed.toList.countP (fun b => !b) ≤ fuel →
      MidT C l m ex nd tk E0 L0 σ Kk listed u Ex a w → wpAnyIn (FR C.r) 0 C.P .any l.toArray Q fuel listed a w := by
  have hml : m ≤ l.length := by simpa using ok.ok.le
  have hbig : l.length ≤ 1000 := by simpa using ok.big
  have hnE : ∀ i, i < m → i ∉ E0 := fun i hi hE => by have := (ok.tok i hE).1; omega
  have hcount : ∀ (listed : Array Bool), listed.size = l.length → (∀ k, Ls listed k → k < m) → l.length - m ≤ listed.toList.countP (fun b => !b) := fun listed hs hm => by
    have h1 : (listed.toList.drop m).countP (fun b => !b) ≤ listed.toList.countP (fun b => !b) := (List.drop_sublist m _).countP_le
    have h2 : (listed.toList.drop m).countP (fun b => !b) = (listed.toList.drop m).length := by
      rw [List.countP_eq_length]
      intro b hb
      obtain ⟨j, hj⟩ := List.getElem?_of_mem hb
      rw [List.getElem?_drop] at hj
      cases b with
      | false => rfl
      | true =>
        have : Ls listed (m + j) := by
          unfold Ls
          rw [Array.getD_eq_getD_getElem?, ← Array.getElem?_toList, hj]; rfl
        have := hm _ this
        omega
    rw [List.length_drop, Array.length_toList, hs] at h2
    omega
  intro fuel
  induction fuel with
  | zero =>
    intro listed u Ex a w hs hc hm hcnt h
    have hml' := hcount listed hs hm
    refine draw_endT ok hgood hK listed u Ex a w 0 hs hc hm (fun j hj => ?_) (by omega) h
    have h0 : listed.toList.countP (fun b => !b) = 0 := by omega
    rw [List.countP_eq_zero] at h0
    have := h0 (listed[j]'(by omega)) (by simp)
    unfold Ls
    rw [Array.getD_eq_getD_getElem?, Array.getElem?_eq_getElem (by omega)]
    simpa using this
  | succ fuel ih =>
    intro listed u Ex a w hs hc hm hcnt h
    have hml' := hcount listed hs hm
    by_cases hall : ∀ j, j < m → Ls listed j
    · exact draw_endT ok hgood hK listed u Ex a w (fuel + 1) hs hc hm hall (by omega) h
    refine ⟨fun hr => absurd (fun j hj => all_listed ok.ok (by simpa using hs) hr j (by simp; omega)) hall, fun i hi => ?_⟩
    obtain ⟨h1, o, ho', _⟩ := mem_ready.1 hi
    have ho : l[i]? = some o := by simpa using ho'
    have hil : i < l.length := (List.getElem?_eq_some_iff.1 ho).1
    have hni : ¬ Ls listed i := (not_ls (by omega)).2 h1
    have him : i < m := by
      rcases Nat.lt_or_ge i m with h' | h'
      · exact h'
      · exact absurd (fun j hj => ready_anc hc hi (ok.ok.tail i o h' ho' j (by omega))) hall
    have hc' := hc.set hi (by omega)
    have hm' : ∀ k, Ls (listed.setIfInBounds i true) k → k < m := fun k hk => by
      rcases (Ls.set_iff (by omega)).1 hk with rfl | hk
      · exact him
      · exact hm k hk
    have hcnt' : (listed.setIfInBounds i true).toList.countP (fun b => !b) ≤ fuel := by
      have hb : listed.toList[i]'(by simp; omega) = false := by
        have := h1
        rw [Array.getD_eq_getD_getElem?, Array.getElem?_eq_getElem (by omega)] at this
        simpa using this
      have hpos : 0 < listed.toList.countP (fun b => !b) := List.countP_pos_iff.2 ⟨false, by rw [← hb]; exact List.getElem_mem _, rfl⟩
      have e := List.countP_set (p := fun b : Bool => !b) (l := listed.toList) (i := i) (a := true) (by simp; omega)
      rw [hb] at e
      rw [Array.toList_setIfInBounds, e]
      show _ - 1 + 0 ≤ fuel
      omega
    have goOn := fun u1 Ex1 a1 w1 => ih (listed.setIfInBounds i true) u1 Ex1 a1 w1 (by simpa using hs) hc' hm' hcnt'
    have hread : ∀ u', Valid ex u' → (∀ c ∈ Ex, u' c = u c) → ∀ vs, GoodT C l m ex nd tk E0 L0 σ Kk u' vs → (∀ x ∈ o.op.operands, ev (fun t => a.tmps.getD t undef) x = ev (envAt ((l.take m).take i) (vs.take i) σ) x) ∧ wants l.toArray (fun t => a.tmps.getD t undef) o = wants l.toArray (envAt ((l.take m).take i) (vs.take i) σ) o := fun u' hu' hag vs hg => by
      refine ⟨fun x hx => ?_, wants_congr fun g b hgd tg htg => ?_⟩
      · cases x with
        | tmp t => exact h.read ok hc hi him ho hu' hag hg (fun j o' hj hjo hd => ok.ok.look i o him ho' j o' hj (by simpa using hjo) t hd hx)
        | _ => rfl
      · exact h.read ok hc hi him ho hu' hag hg (fun j o' hj hjo hd => ok.ok.gard i o him ho' g b hgd tg htg j o' hj (by simpa using hjo) hd)
    have hexec : ∀ u', Valid ex u' → (∀ c ∈ Ex, u' c = u c) → ∀ vs, GoodT C l m ex nd tk E0 L0 σ Kk u' vs → execOp (ev (fun t => a.tmps.getD t undef)) o = execOp (ev (envAt ((l.take m).take i) (vs.take i) σ)) o := fun u' hu' hag vs hg =>
      execOp_congr o (ok.ok.sel i o ho') (hread u' hu' hag vs hg).1
    have hat : ∀ vs : List Value, vs.length = (l.take m).length → ∃ v, vs[i]? = some v := fun vs hl => ⟨vs[i]'(by rw [hl, List.length_take]; omega), List.getElem?_eq_getElem _⟩
    -- no one who has run takes what i reads, but i itself
    have hfree : ∀ c ∈ nd i, ∀ k ∈ Ex, tk k ≠ some c := fun c hcn k hk hkc => by
      rcases h.sub k hk with ⟨hkm, hkl⟩ | hk0
      · have h2 := ok.tak k hkm c hkc
        have hki : i ≠ k := fun e => hni (e ▸ hkl)
        have h3 := (h2.2.2 i him hki hcn).2
        exact hni (anc_in (D := Ls listed) hc h3 (hc k hkl))
      · rw [(ok.tok k hk0).2] at hkc; cases hkc
    have hneed : ∀ u' vs, Valid ex u' → (∀ c ∈ Ex, u' c = u c) → GoodT C l m ex nd tk E0 L0 σ Kk u' vs → (∀ c ∈ nd i, c ∈ liveT tk (exAt l.toArray ex 0 ((l.take m).take i) (vs.take i) σ E0)) →
        ∃ Rl : List Nat, (liveT tk Ex).Perm (nd i ++ Rl) ∧ Hp C.w0 C.B ((hid C a ++ Rl.flatMap fun c => (u c).2) ++ needs u' (nd i) L0) w := fun u' vs hu' hag hg hn => by
      have hsub : ∀ c ∈ nd i, c ∈ liveT tk Ex := fun c hcn => by
        refine mem_liveT.2 ⟨?_, hfree c hcn⟩
        rcases ok.has i him c hcn with hc1 | hc1
        · have hcn' : c ∈ (nd i).filter fun c => Nat.blt c 1000 := List.mem_filter.2 ⟨hcn, Nat.ble_eq_true_of_le hc1⟩
          have hcl := ready_anc hc hi (ok.ok.need i o him ho' c hcn').2
          have hci := (ok.ok.need i o him ho' c hcn').1
          have hcm : c < m := by omega
          obtain ⟨v, hv⟩ : ∃ v, vs[c]? = some v := ⟨vs[c]'(by rw [hg.len, List.length_take]; omega), List.getElem?_eq_getElem _⟩
          refine ((h.vals u' hu' hag vs hg c l[c] v hcm (List.getElem?_eq_getElem (by omega)) hv hcl).2).2 ?_
          rcases (exAt_mem _ _ _ _ _ _).1 (mem_liveT.1 (hn c hcn)).1 with h0 | ⟨j, o', v', h2, h3, h4, h5, h6⟩
          · have := (ok.tok c h0).1; omega
          · obtain ⟨hji, hjm, hjl⟩ := take_take_get h2
            refine (exAt_mem _ _ _ _ _ _).2 (.inr ⟨j, o', v', take_get hjm hjl, ?_, h4, ?_, h6⟩)
            · rw [List.getElem?_take, if_pos hji] at h3; exact h3
            · have e1 : ((l.take m).take i).take j = (l.take m).take j := by rw [List.take_take, Nat.min_eq_left (by omega)]
              have e2 : (vs.take i).take j = vs.take j := by rw [List.take_take, Nat.min_eq_left (by omega)]
              rw [e1, e2] at h5; exact h5
        · exact h.old c hc1
      have hnd : (liveT tk Ex).Nodup := h.nodup.filter _
      obtain ⟨R, hp⟩ := perm_needs hsub (ok.nodu i him) hnd
      have hfl : ∀ E : List Nat, (∀ c ∈ E, c ∈ Ex) → E.flatMap (fun c => (u c).2) = E.flatMap (fun c => (u' c).2) := fun E hE => by
        induction E with
        | nil => rfl
        | cons c E ihE =>
          rw [List.flatMap_cons, List.flatMap_cons, hag c (hE c (by simp)), ihE (fun d hd => hE d (by simp [hd]))]
      have hpp : (needs u (liveT tk Ex) L0).Perm ((R.flatMap fun c => (u c).2) ++ needs u' (nd i) L0) := by
        unfold needs
        rw [← hfl (nd i) (fun c hcn => (mem_liveT.1 (hsub c hcn)).1), ← List.append_assoc]
        refine List.Perm.append_right _ ((List.Perm.flatMap_right _ hp).trans ?_)
        rw [List.flatMap_append]
        exact List.perm_append_comm
      refine ⟨R, hp, h.heap.perm ?_⟩
      rw [List.append_assoc]
      exact List.Perm.append_left _ hpp
    obtain ⟨vs, hg⟩ := hgood u h.valid
    obtain ⟨v, hv⟩ := hat vs hg.len
    have hstep := hg.step i o v (take_get him ho) hv
    obtain ⟨hd, hstep⟩ := hstep
    unfold wpOpIn
    rw [ho']
    simp only
    rcases hstep with ⟨hw, hn, hcase⟩ | ⟨hw, rfl⟩
    · rw [if_pos (wanted_eq (Agree.refl a) (by rw [(hread u h.valid (fun _ _ => rfl) vs hg).2]; exact hw))]
      obtain ⟨R, hp, hhp⟩ := hneed u vs h.valid (fun _ _ => rfl) hg hn
      rcases hcase with ⟨V, hx, rfl, hsp⟩ | ⟨hx, hsd⟩
      · have hgo := hsp _ w hhp
        rw [← hexec u h.valid (fun _ _ => rfl) vs hg] at hgo
        refine hgo.wpIn (Agree.refl a) ?_
        rintro v' w' ⟨L', hh', T, rfl, hV⟩
        have hniE : i ∉ Ex := fun hiE => by
          rcases h.sub i hiE with h2 | h2
          · exact hni h2.2
          · exact hnE i him h2
        have hval : Valid ex (fun c => if c = i then (v', T) else u c) := fun k V' hk => by
          by_cases hki : k = i
          · subst hki; rw [hx] at hk; cases hk; simpa using hV
          · simp only [if_neg hki]; exact h.valid k V' hk
        have hsame : ∀ c ∈ Ex, (if c = i then (v', T) else u c) = u c := fun c hcE => if_neg (fun e : c = i => hniE (e ▸ hcE))
        refine goOn (fun c => if c = i then (v', T) else u c) (i :: Ex) _ _ ?_
        refine h.put ok (by omega) hni him ho hd hval (List.nodup_cons.2 ⟨hniE, h.nodup⟩) (.inr ⟨rfl, hsame⟩) ?_ ?_
        · intro u' hu' hag vs' hg' v2 hv2
          have hag' : ∀ c ∈ Ex, u' c = u c := fun c hcE => by rw [hag c (by simp [hcE]), hsame c hcE]
          obtain ⟨_, hs2⟩ := hg'.step i o v2 (take_get him ho) hv2
          have hw2 : wants l.toArray (envAt ((l.take m).take i) (vs'.take i) σ) o = true := by
            rw [← (hread u' hu' hag' vs' hg').2, (hread u h.valid (fun _ _ => rfl) vs hg).2]; exact hw
          refine ⟨?_, by simp [exAt_atT (hnE i him) (take_get him ho) hv2, hw2, hx]⟩
          rcases hs2 with ⟨_, _, ⟨V2, hx2, rfl, _⟩ | ⟨hx2, _⟩⟩ | ⟨hw3, _⟩
          · have := hag i (by simp)
            rw [this]; simp
          · rw [hx] at hx2; cases hx2
          · rw [hw2] at hw3; cases hw3
        · refine hh'.perm ?_
          rw [List.append_assoc]
          refine List.Perm.append_left _ ?_
          -- what lives behind it
          have hlive : (liveT tk (i :: Ex)).Perm (i :: ((nd i).filter (fun c => !decide (tk i = some c)) ++ R)) := by
            have e0 : liveT tk (i :: Ex) = i :: (liveT tk Ex).filter (fun c => !decide (tk i = some c)) := by
              unfold liveT
              have hii : (!((i :: Ex).any fun k => decide (tk k = some i))) = true := by
                simp only [Bool.not_eq_true', List.any_eq_false, List.mem_cons, decide_eq_true_eq]
                rintro k (rfl | hk) hkc
                · exact (ok.tak _ him _ hkc).2.1 rfl
                · rcases h.sub k hk with ⟨hkm, hkl⟩ | hk0
                  · have h2 := ok.tak k hkm i hkc
                    have h4 : i ∈ (nd k).filter fun c => Nat.blt c 1000 := List.mem_filter.2 ⟨h2.1, Nat.ble_eq_true_of_le (by omega)⟩
                    obtain ⟨ok', hok'⟩ : ∃ o', l[k]? = some o' := ⟨l[k]'(by omega), List.getElem?_eq_getElem (by omega)⟩
                    have h3 := (ok.ok.need k ok' hkm (by simpa using hok') i h4).2
                    exact hni (anc_in (D := Ls listed) hc h3 (hc k hkl))
                  · rw [(ok.tok k hk0).2] at hkc; cases hkc
              rw [List.filter_cons, if_pos hii]
              congr 1
              rw [List.filter_filter]
              apply List.filter_congr
              intro c _
              simp only [List.any_cons, Bool.not_or]
            rw [e0]
            refine List.Perm.cons _ ?_
            refine (hp.filter _).trans ?_
            rw [List.filter_append]
            refine List.Perm.append_left _ ?_
            have : R.filter (fun c => !decide (tk i = some c)) = R := by
              rw [List.filter_eq_self]
              intro c hcR
              simp only [Bool.not_eq_true', decide_eq_false_iff_not]
              intro hkc
              have h2 := (ok.tak i him c hkc).1
              have hnd : (nd i ++ R).Nodup := hp.nodup_iff.1 (h.nodup.filter _)
              exact (List.nodup_append.1 hnd).2.2 c h2 c hcR rfl
            rw [this]
          have hRE : ∀ c ∈ (nd i).filter (fun c => !decide (tk i = some c)) ++ R, c ∈ Ex := fun c hcc => by
            have : c ∈ nd i ++ R := by
              rcases List.mem_append.1 hcc with h2 | h2
              · exact List.mem_append_left _ (List.mem_filter.1 h2).1
              · exact List.mem_append_right _ h2
            exact (mem_liveT.1 (hp.mem_iff.2 this)).1
          have e1 : ∀ E : List Nat, (∀ c ∈ E, c ∈ Ex) → E.flatMap (fun c => (if c = i then (v', T) else u c).2) = E.flatMap (fun c => (u c).2) := fun E hE => by
            induction E with
            | nil => rfl
            | cons c E ihE => rw [List.flatMap_cons, List.flatMap_cons, hsame c (hE c (by simp)), ihE (fun d hd => hE d (by simp [hd]))]
          have e2 : needs (fun c => if c = i then (v', T) else u c) (i :: ((nd i).filter (fun c => !decide (tk i = some c)) ++ R)) L0 = T ++ (((nd i).filter (fun c => !decide (tk i = some c))).flatMap (fun c => (u c).2) ++ (R.flatMap (fun c => (u c).2) ++ L0)) := by
            unfold needs
            rw [List.flatMap_cons, e1 _ hRE, List.flatMap_append]
            simp
          refine List.Perm.trans ?_ (needs_perm hlive.symm)
          rw [e2]
          unfold needs
          refine List.Perm.trans List.perm_append_comm ?_
          rw [List.append_assoc, List.append_assoc]
          refine List.Perm.append_left _ (List.Perm.append_left _ List.perm_append_comm)
      · have hrun := hsd _ w hhp
        rw [← hexec u h.valid (fun _ _ => rfl) vs hg] at hrun
        have hgo : Goes C.P ((execOp (ev (fun t => a.tmps.getD t undef)) o).run C.P w) (fun v' w' => v' = v ∧ w' = w) := .inl ⟨v, w, hrun, rfl, rfl⟩
        refine hgo.wpIn (Agree.refl a) ?_
        rintro v' w' ⟨rfl, rfl⟩
        have hniE : i ∉ Ex := fun hiE => by
          rcases h.sub i hiE with h2 | h2
          · exact hni h2.2
          · exact hnE i him h2
        refine goOn u Ex _ _ (h.put ok (by omega) hni him ho hd h.valid h.nodup (.inl ⟨rfl, rfl⟩) ?_ h.heap)
        intro u' hu' hag vs' hg' v2 hv2
        obtain ⟨_, hs2⟩ := hg'.step i o v2 (take_get him ho) hv2
        have hw2 : wants l.toArray (envAt ((l.take m).take i) (vs'.take i) σ) o = true := by
          rw [← (hread u' hu' hag vs' hg').2, (hread u h.valid (fun _ _ => rfl) vs hg).2]; exact hw
        refine ⟨?_, by simp [exAt_atT (hnE i him) (take_get him ho) hv2, hx, hniE]⟩
        rcases hs2 with ⟨_, hn2, ⟨V2, hx2, _, _⟩ | ⟨_, hsd2⟩⟩ | ⟨hw3, _⟩
        · rw [hx] at hx2; cases hx2
        · obtain ⟨R2, _, hhp2⟩ := hneed u' vs' hu' hag hg' hn2
          have hrun2 := hsd2 _ w' hhp2
          rw [← hexec u' hu' hag vs' hg', hrun] at hrun2
          injection hrun2 with h5
          injection h5 with h5
          exact h5.symm
        · rw [hw2] at hw3; cases hw3
    · rw [if_neg (by rw [wanted_ne (Agree.refl a) (by rw [(hread u h.valid (fun _ _ => rfl) vs hg).2]; exact hw)]; simp)]
      have hniE : i ∉ Ex := fun hiE => by
        rcases h.sub i hiE with h2 | h2
        · exact hni h2.2
        · exact hnE i him h2
      refine ⟨fun _ _ => trivial, goOn u Ex _ _ (h.put ok (by omega) hni him ho hd h.valid h.nodup (.inl ⟨rfl, rfl⟩) ?_ h.heap)⟩
      intro u' hu' hag vs' hg' v2 hv2
      obtain ⟨_, hs2⟩ := hg'.step i o v2 (take_get him ho) hv2
      have hw2 : wants l.toArray (envAt ((l.take m).take i) (vs'.take i) σ) o = false := by
        rw [← (hread u' hu' hag vs' hg').2, (hread u h.valid (fun _ _ => rfl) vs hg).2]; exact hw
      refine ⟨?_, by simp [exAt_atT (hnE i him) (take_get him ho) hv2, hw2, hniE]⟩
      rcases hs2 with ⟨hw3, _⟩ | ⟨_, h5⟩
      · rw [hw2] at hw3; cases hw3
      · exact h5
end
/-- **A REGION WHOSE ORDER IS DRAWN**, what was there in tokens E0: token c holds T0 c. -/
theorem Cd.drawT {C : Ctx} {Q : Exit → Env → List Res → Prop} {id : Nat} {l : List Oper} {σ : Env} {L L0 : List Res} (hm : C.P.follows .mixedOrders = true) (m : Nat) (ex : Nat → Option (Value → List Res → Prop)) (nd : Nat → List Nat) (tk : Nat → Option Nat) (E0 : List Nat) (T0 : Nat → List Res) (hok : drawOkT l.toArray m nd tk E0 = true)
    (hL : L.Perm (E0.flatMap T0 ++ L0)) (hex : ∀ c ∈ E0, ex c = some (fun v R => v = undef ∧ R = T0 c)) (hin : ∀ k V, ex k = some V → ∃ v R, V v R)
    (h : ∀ u : Got, Valid ex u → (∀ c ∈ E0, u c = (undef, T0 c)) → WkT C l.toArray ex nd tk u L0 0 (l.take m) σ E0 (fun σ' E => Ol C l.toArray (l.drop m) (fun σ L => Q .normal σ L) σ' (needs u (liveT tk E) L0))) :
    Cd C (.region id l.toArray true) Q σ L := by
  intro a w ha hs
  refine wpIn_region_any hm ?_
  have ok : OkT l.toArray m nd tk E0 := OkT.mk' hok
  have hu0e : ∀ u, Valid ex u → ∀ c ∈ E0, u c = (undef, T0 c) := fun u hu c hc => by
    obtain ⟨h1, h2⟩ := hu c _ (hex c hc)
    rw [← h1, ← h2]
  have hgood : ∀ u, Valid ex u → ∃ vs, GoodT C l m ex nd tk E0 L0 σ (fun u σ' E => Ol C l.toArray (l.drop m) (fun σ L => Q .normal σ L) σ' (needs u (liveT tk E) L0)) u vs := fun u hu => by
    obtain ⟨vs, h1, h2, h3⟩ := (h u hu (hu0e u hu)).vals
    exact ⟨vs, h1, fun i o v hi hv => by simpa using h2 i o v hi hv, h3⟩
  have hu0 : ∃ u : Got, Valid ex u := by
    refine ⟨fun k => match hx : ex k with
      | some V => (Classical.choose (hin k V hx), Classical.choose (Classical.choose_spec (hin k V hx)))
      | none => (undef, []), fun k V hk => ?_⟩
    have := Classical.choose_spec (Classical.choose_spec (hin k V hk))
    simp only
    split
    · rename_i V' hx
      rw [hk] at hx
      cases hx
      exact this
    · rename_i hx; rw [hk] at hx; cases hx
  obtain ⟨u, hu⟩ := hu0
  have hlive : liveT tk E0 = E0 := by
    unfold liveT
    rw [List.filter_eq_self]
    intro c _
    simp only [Bool.not_eq_true', List.any_eq_false, decide_eq_true_eq]
    intro k hk hkc
    rw [(ok.tok k hk).2] at hkc; cases hkc
  have hneeds : needs u E0 L0 = E0.flatMap T0 ++ L0 := by
    unfold needs
    congr 1
    have : ∀ E : List Nat, (∀ c ∈ E, c ∈ E0) → E.flatMap (fun c => (u c).2) = E.flatMap T0 := fun E hE => by
      induction E with
      | nil => rfl
      | cons c E ihE => rw [List.flatMap_cons, List.flatMap_cons, hu0e u hu c (hE c (by simp)), ihE (fun d hd => hE d (by simp [hd]))]
    exact this E0 (fun _ h => h)
  refine draw_anyT (nd := nd) (tk := tk) (E0 := E0) (ex := ex) (σ := σ) (L0 := L0) ok hgood (fun u σ' E a w hk ha hs => hk a w _ ha hs fun a' w' σ'' L' h1 h2 h3 => ⟨σ'', L', h1, h2, h3⟩) l.toArray.size (Array.replicate l.toArray.size false) u E0 a _ (by simp) ?_ ?_ ?_ ⟨hs.size, hu, ok.e0, fun c hc => .inr hc, fun c hc => hc, fun t _ => ha t, ?_, ?_⟩
  · intro k hk
    exact (ls_rep hk).elim
  · intro k hk
    exact (ls_rep hk).elim
  · simp only [Array.toList_replicate]
    exact Nat.le_trans List.countP_le_length (by simp)
  · intro u' _ _ vs _ j o v _ _ _ hl
    exact (ls_rep hl).elim
  · rw [hlive, hneeds]
    exact (hs.heap.step (Stp.drew w)).perm (List.Perm.append_left _ hL)
/-! ### The walk's steps -/
section
variable {C : Ctx} {all : Array Oper} {ex : Nat → Option (Value → List Res → Prop)} {nd : Nat → List Nat} {tk : Nat → Option Nat} {u : Got} {L0 : List Res} {k : Nat} {rest : List Oper} {σ : Env} {E : List Nat} {K : Env → List Nat → Prop} {op : Op} {d : Option Nat} {ty : TypeId} {pos : String} {af : Array Edge} {gd : Option (Nat × Bool)} {v : Value}
theorem WkT.nil (h : K σ E) : WkT C all ex nd tk u L0 k [] σ E K := h
theorem WkT.goN {l : List Nat} (hw : wants all σ ⟨d, op, ty, pos, af, gd⟩ = true) (h : Sd C.P C.w0 C.B ⟨d, op, ty, pos, af, gd⟩ σ (needs u l L0) v) (hk : WkT C all ex nd tk u L0 (k + 1) rest (updO σ d v) E K)
    (hd : okDst C.N d = true) (hx : ex k = none) (hn : nd k = l) (hE : ∀ c ∈ l, c ∈ liveT tk E) : WkT C all ex nd tk u L0 k (⟨d, op, ty, pos, af, gd⟩ :: rest) σ E K := by
  unfold WkT
  simp only [hw, cond_true, hx, hn]
  exact ⟨hE, hd, v, h, hk⟩
theorem WkT.goX {l l2 : List Nat} {V : Value → List Res → Prop} (hw : wants all σ ⟨d, op, ty, pos, af, gd⟩ = true) (hu : Valid ex u) (hx : ex k = some V) (hn : nd k = l) (h2 : (l.filter fun c => !decide (tk k = some c)) = l2) (hE : ∀ c ∈ l, c ∈ liveT tk E)
    (h : Sp C.P C.w0 C.B ⟨d, op, ty, pos, af, gd⟩ σ (needs u l L0) (Adds V (needs u l2 L0))) (hk : ∀ v T, u k = (v, T) → V v T → WkT C all ex nd tk u L0 (k + 1) rest (updO σ d v) (k :: E) K)
    (hd : okDst C.N d = true) : WkT C all ex nd tk u L0 k (⟨d, op, ty, pos, af, gd⟩ :: rest) σ E K := by
  unfold WkT
  simp only [hw, cond_true, hx, hn, h2]
  exact ⟨hE, hd, h, hk _ _ rfl (hu k V hx)⟩
theorem WkT.p (h : Sd C.P C.w0 C.B ⟨d, op, ty, pos, af, none⟩ σ L0 v) (hk : WkT C all ex nd tk u L0 (k + 1) rest (updO σ d v) E K) (hd : okDst C.N d = true := by rfl) (hx : ex k = none := by rfl) (hn : nd k = [] := by rfl) :
    WkT C all ex nd tk u L0 k (⟨d, op, ty, pos, af, none⟩ :: rest) σ E K := WkT.goN (l := []) rfl h hk hd hx hn (fun c h => by cases h)
theorem WkT.pn {l : List Nat} (hn : nd k = l) (hE : (l.all fun c => (liveT tk E).contains c) = true) (h : Sd C.P C.w0 C.B ⟨d, op, ty, pos, af, none⟩ σ (needs u l L0) v) (hk : WkT C all ex nd tk u L0 (k + 1) rest (updO σ d v) E K) (hd : okDst C.N d = true := by rfl) (hx : ex k = none := by rfl) :
    WkT C all ex nd tk u L0 k (⟨d, op, ty, pos, af, none⟩ :: rest) σ E K := WkT.goN rfl h hk hd hx hn (fun c hc => by simpa using List.all_eq_true.1 hE c hc)
theorem WkT.xn {l l2 : List Nat} {V : Value → List Res → Prop} (hu : Valid ex u) (hn : nd k = l) (h2 : (l.filter fun c => !decide (tk k = some c)) = l2) (hE : (l.all fun c => (liveT tk E).contains c) = true) (h : Sp C.P C.w0 C.B ⟨d, op, ty, pos, af, none⟩ σ (needs u l L0) (Adds V (needs u l2 L0))) (hk : ∀ v T, u k = (v, T) → V v T → WkT C all ex nd tk u L0 (k + 1) rest (updO σ d v) (k :: E) K)
    (hd : okDst C.N d = true := by rfl) (hx : ex k = some V := by rfl) : WkT C all ex nd tk u L0 k (⟨d, op, ty, pos, af, none⟩ :: rest) σ E K :=
  WkT.goX rfl hu hx hn h2 (fun c hc => by simpa using List.all_eq_true.1 hE c hc) h hk hd
end
end Go.Proofs.YtcojedoejpcolaaGreat

/- Many rows of numbers of one's own, one behind the other among what is held; arrays told by a function. Over any program. -/
namespace Go.Proofs.YtcojedoejpcolaaGreat
set_option linter.unusedVariables false
open Go Go.RowKit

/-- Cells told by a function. -/
def rngV (n : Nat) (h : Nat → Value) : Array Value := ((List.range n).map h).toArray
theorem rngV_size (n : Nat) (h : Nat → Value) : (rngV n h).size = n := by simp [rngV]
theorem rngV_get {n : Nat} {h : Nat → Value} {i : Nat} (hi : i < n) : (rngV n h)[i]? = some (h i) := by simp [rngV, hi]
theorem rngV_set {n : Nat} {h : Nat → Value} {k : Nat} {v : Value} : (rngV n h).setIfInBounds k v = rngV n (fun x => if x = k then v else h x) := by
  apply Array.ext
  · simp [rngV]
  · intro i h1 h2
    simp only [rngV, List.setIfInBounds_toArray, List.getElem_toArray]
    rw [List.getElem_set]
    by_cases e : k = i
    · subst e; simp
    · rw [if_neg e]; simp [Ne.symm e]
theorem rngV_congr {n : Nat} {h h' : Nat → Value} (he : ∀ i, i < n → h i = h' i) : rngV n h = rngV n h' := by
  unfold rngV
  congr 1
  apply List.map_congr_left
  intro i hi
  exact he i (by simpa using hi)
theorem rngV_rep (n : Nat) (v : Value) : Array.replicate n v = rngV n fun _ => v := by
  apply Array.ext'
  unfold rngV
  rw [Array.toList_replicate]
  simp [List.map_const']
/-- The slices' heads: where they lie, their room. -/
abbrev Heads := Nat → Option Addr × Nat
def headV (H : Heads) (xs : Nat → List Int) (x : Nat) : Value := .slice (H x).1 (xs x).length (H x).2
def rowP (e : Nat) (H : Heads) (xs : Nat → List Int) (x : Nat) : Res := row (headV H xs x) e 1 (xs x).length (ints (xs x))
def rowsP (n e : Nat) (H : Heads) (xs : Nat → List Int) : List Res := (List.range n).map (rowP e H xs)
def restP (n e b : Nat) (H : Heads) (xs : Nat → List Int) : List Res := ((List.range n).eraseIdx b).map (rowP e H xs)
theorem rowsP_get {n e x : Nat} {H : Heads} {xs : Nat → List Int} (h : x < n) : (rowsP n e H xs)[x]? = some (row (.slice (H x).1 (xs x).length (H x).2) e 1 (xs x).length (ints (xs x))) := by
  unfold rowsP
  rw [List.getElem?_map, List.getElem?_range h]
  rfl
theorem rowsP_perm {n e b : Nat} {H : Heads} {xs : Nat → List Int} (h : b < n) : (rowsP n e H xs).Perm (row (.slice (H b).1 (xs b).length (H b).2) e 1 (xs b).length (ints (xs b)) :: restP n e b H xs) := by
  unfold rowsP restP
  have h1 : (List.range n).Perm (b :: (List.range n).eraseIdx b) := by
    rw [List.eraseIdx_eq_take_drop_succ]
    have e1 : List.range n = (List.range n).take b ++ b :: (List.range n).drop (b + 1) := by
      have := split_at (l := List.range n) (i := b) (x := b) (List.getElem?_range h)
      exact this
    rw (occs := .pos [1]) [e1]
    exact List.perm_middle
  exact h1.map _
theorem restP_congr {n e b : Nat} {H H' : Heads} {xs xs' : Nat → List Int} (h : ∀ x, x ≠ b → H x = H' x ∧ xs x = xs' x) : restP n e b H xs = restP n e b H' xs' := by
  unfold restP
  apply List.map_congr_left
  intro x hx
  have hne : x ≠ b := by
    rintro rfl
    have hn : (List.range n).Nodup := List.nodup_range
    by_cases hb : x < n
    · have h1 : (List.range n).Perm (x :: (List.range n).eraseIdx x) := by
        rw [List.eraseIdx_eq_take_drop_succ]
        have e1 : List.range n = (List.range n).take x ++ x :: (List.range n).drop (x + 1) := split_at (l := List.range n) (i := x) (x := x) (List.getElem?_range hb)
        rw (occs := .pos [1]) [e1]
        exact List.perm_middle
      exact (List.nodup_cons.1 (h1.nodup_iff.1 hn)).1 hx
    · have := List.mem_of_mem_eraseIdx hx
      simp at this; omega
  obtain ⟨h1, h2⟩ := h x hne
  unfold rowP headV
  rw [h1, h2]
theorem rowsP_congr {n e : Nat} {H H' : Heads} {xs xs' : Nat → List Int} (h : ∀ x, x < n → H x = H' x ∧ xs x = xs' x) : rowsP n e H xs = rowsP n e H' xs' := by
  unfold rowsP
  apply List.map_congr_left
  intro x hx
  obtain ⟨h1, h2⟩ := h x (by simpa using hx)
  unfold rowP headV
  rw [h1, h2]
/-- As many empty ones as are wanted. -/
theorem Hp.nrs {w0 w : World} {B e : Nat} {M L : List Res} (h : Hp w0 B (M ++ L) w) : ∀ n, Hp w0 B (M ++ (L ++ rowsP n e (fun _ => (none, 0)) (fun _ => []))) w
  | 0 => by simpa [rowsP] using h
  | n + 1 => by
    have h1 := Hp.nrs (e := e) h n
    have h2 : Hp w0 B (M ++ (row (.slice none 0 0) e 1 0 [] :: (L ++ rowsP n e (fun _ => (none, 0)) (fun _ => [])))) w := Hp.nr h1
    refine h2.perm (List.Perm.append_left _ ?_)
    have : rowsP (n + 1) e (fun _ => (none, 0)) (fun _ => []) = rowsP n e (fun _ => (none, 0)) (fun _ => []) ++ [row (.slice none 0 0) e 1 0 []] := by
      unfold rowsP
      rw [List.range_succ, List.map_append]; rfl
    rw [this, ← List.append_assoc]
    exact (List.perm_append_singleton _ _).symm
theorem Cd.nrs {C : Ctx} {c : Code} {Q : Exit → Env → List Res → Prop} {σ : Env} {L : List Res} (n e : Nat) (hc : Cd C c Q σ (L ++ rowsP n e (fun _ => (none, 0)) (fun _ => []))) : Cd C c Q σ L := fun a w ha hs => hc a w ha ⟨hs.size, hs.heap.nrs n⟩
end Go.Proofs.YtcojedoejpcolaaGreat

/- Plain laws behind ir.Right: whether all that is read has a value. -/
namespace Go.Proofs.YtcojedoejpcolaaGreat
set_option linter.unusedVariables false
open Go Go.RowKit

def okPast : List RIns → Tm → VS → Bool
  | [], t, s => hasV s (needsL t)
  | i :: l, t, s => hasV s (readsL i) && okPast l t (putV s (defI i).toNat true)
theorem hasV_iff {s : VS} {l : List Int} : hasV s l = true ↔ ∀ n ∈ l, s n.toNat = true := by
  unfold hasV; rw [List.all_eq_true]
theorem exposed_range : ∀ {l : List RIns} {t : Tm} {v : Int}, exposed l t v = true → 1 ≤ v ∧ v ≤ 200
  | [], t, v, h => by
    have := needsL_mem (t := t) (n := v) (by simpa [exposed] using h)
    omega
  | i :: l, t, v, h => by
    unfold exposed at h
    rw [Bool.or_eq_true] at h
    rcases h with h | h
    · exact readsL_mem (by simpa using h)
    · rw [Bool.and_eq_true] at h
      exact exposed_range h.2
theorem okPast_iff : ∀ {l : List RIns} {t : Tm} {s : VS}, okPast l t s = true ↔ ∀ v : Int, exposed l t v = true → s v.toNat = true
  | [], t, s => by
    unfold okPast
    rw [hasV_iff]
    exact ⟨fun h v hv => h v (by simpa [exposed] using hv), fun h v hv => h v (by simpa [exposed] using hv)⟩
  | i :: l, t, s => by
    unfold okPast
    rw [Bool.and_eq_true, hasV_iff, okPast_iff]
    have hd := defI_range i
    constructor
    · rintro ⟨h1, h2⟩ v hv
      have hr := exposed_range hv
      unfold exposed at hv
      rw [Bool.or_eq_true] at hv
      rcases hv with hv | hv
      · exact h1 v (by simpa using hv)
      · rw [Bool.and_eq_true] at hv
        have hne : defI i ≠ v := by simpa using hv.1
        have := h2 v hv.2
        unfold putV at this
        rwa [if_neg (by omega)] at this
    · intro h
      refine ⟨fun n hn => h n (by unfold exposed; rw [Bool.or_eq_true]; exact .inl (by simpa using hn)), fun v hv => ?_⟩
      have hr := exposed_range hv
      unfold putV
      by_cases e : defI i = v
      · rw [if_pos (by omega)]
      · rw [if_neg (by omega)]
        refine h v ?_
        unfold exposed
        rw [Bool.or_eq_true]
        right
        rw [Bool.and_eq_true]
        exact ⟨by simpa using e, hv⟩
/-- What is in a set behind a block's instructions. -/
def outV (l : List RIns) (s : VS) : VS := l.foldl (fun s i => putV s (defI i).toNat true) s
theorem outV_iff : ∀ {l : List RIns} {s : VS} {v : Nat}, outV l s v = true ↔ s v = true ∨ ∃ i ∈ l, (defI i).toNat = v
  | [], s, v => by simp [outV]
  | i :: l, s, v => by
    show outV l (putV s (defI i).toNat true) v = true ↔ _
    rw [outV_iff]
    have : putV s (defI i).toNat true v = true ↔ s v = true ∨ (defI i).toNat = v := by
      unfold putV
      by_cases e : v = (defI i).toNat
      · rw [if_pos e]; simp [e]
      · rw [if_neg e]
        exact ⟨.inl, fun h => h.elim id fun h => absurd h.symm e⟩
    rw [this]
    simp only [List.mem_cons, exists_eq_or_imp]
    exact or_assoc
theorem outV_snoc {l : List RIns} {k : Nat} {i : RIns} {s : VS} (h : l[k]? = some i) : outV (l.take (k + 1)) s = putV (outV (l.take k) s) (defI i).toNat true := by
  unfold outV
  rw [take_snoc_ h, List.foldl_append]; rfl
/-- A way from the first block to the begin of another, on which a variable gets no value. -/
inductive Bare (f : RFun) (v : Nat) : Nat → Prop
  | zero : (∀ p ∈ f.params, p.toNat ≠ v) → Bare f v 0
  | step {a b : Nat} {x : RBlk} : Bare f v a → f.blocks[a]? = some x → (∀ i ∈ x.ins, (defI i).toNat ≠ v) → (b : Int) ∈ toL x.term → Bare f v b
open Classical in
noncomputable def valuedF (f : RFun) : Bool := decide (∀ (b : Nat) (x : RBlk) (v : Int), f.blocks[b]? = some x → exposed x.ins x.term v = true → ¬ Bare f v.toNat b)
theorem valuedF_iff {f : RFun} : valuedF f = true ↔ ∀ (b : Nat) (x : RBlk) (v : Int), f.blocks[b]? = some x → exposed x.ins x.term v = true → ¬ Bare f v.toNat b := by
  unfold valuedF; exact @decide_eq_true_iff _ (Classical.propDecidable _)
abbrev IV := Nat → VS
def setI (I : IV) (b : Nat) (s : VS) : IV := fun x => if x = b then s else I x
structure Val (f : RFun) (I : IV) : Prop where
  z : ∀ v, v < 201 → (I 0 v = true ↔ ∃ p ∈ f.params, p.toNat = v)
  b : ∀ b v, v < 201 → I b v = false → Bare f v b
theorem Val.turn {f : RFun} {I : IV} {a to : Nat} {x : RBlk} {out : VS} (h : Val f I) (ha : f.blocks[a]? = some x) (ht : (to : Int) ∈ toL x.term) (h0 : to ≠ 0) (ho : ∀ v, v < 201 → out v = false → Bare f v a ∧ ∀ i ∈ x.ins, (defI i).toNat ≠ v) :
    Val f (setI I to fun v => I to v && out v) := by
  refine ⟨fun v hv => ?_, fun b v hv hb => ?_⟩
  · unfold setI; rw [if_neg (fun e => h0 e.symm)]; exact h.z v hv
  · unfold setI at hb
    by_cases e : b = to
    · rw [if_pos e, Bool.and_eq_false_iff] at hb
      rw [e]
      rcases hb with hb | hb
      · exact h.b to v hv hb
      · obtain ⟨h1, h2⟩ := ho v hv hb
        exact .step h1 ha h2 ht
    · rw [if_neg e] at hb
      exact h.b b v hv hb
theorem Val.out {f : RFun} {I : IV} {a : Nat} {x : RBlk} (h : Val f I) : ∀ v, v < 201 → outV x.ins (I a) v = false → Bare f v a ∧ ∀ i ∈ x.ins, (defI i).toNat ≠ v := fun v hv ho => by
  have hn : ¬ (I a v = true ∨ ∃ i ∈ x.ins, (defI i).toNat = v) := fun h2 => by rw [outV_iff.2 h2] at ho; cases ho
  refine ⟨h.b a v hv ?_, fun i hi e => hn (.inr ⟨i, hi, e⟩)⟩
  cases hc : I a v with
  | false => rfl
  | true => exact absurd (.inl hc) hn
/-- Nothing is turned by a block's edge. -/
def Stab (I : IV) (out : VS) (to : Nat) : Prop := ∀ v, v < 201 → I to v = true → out v = true
theorem Val.fin {f : RFun} {I : IV} (h : Val f I) (hs : ∀ (a : Nat) (x : RBlk), f.blocks[a]? = some x → ∀ to : Nat, (to : Int) ∈ toL x.term → Stab I (outV x.ins (I a)) to) {b v : Nat} (hv : v < 201) : I b v = false ↔ Bare f v b := by
  refine ⟨h.b b v hv, fun hb => ?_⟩
  induction hb with
  | zero hp =>
    cases hc : I 0 v with
    | false => rfl
    | true =>
      obtain ⟨p, hp1, hp2⟩ := (h.z v hv).1 hc
      exact absurd hp2 (hp p hp1)
  | @step a b x _ ha hd ht ih =>
    cases hc : I b v with
    | false => rfl
    | true =>
      have := hs a x ha b ht v hv hc
      rw [outV_iff] at this
      rcases this with h1 | ⟨i, hi, h1⟩
      · rw [ih] at h1; cases h1
      · exact absurd h1 (hd i hi)
theorem valued_of {f : RFun} {I : IV} (h : ∀ b v, v < 201 → (I b v = false ↔ Bare f v b)) : valuedF f = (List.range f.blocks.length).all fun b => match f.blocks[b]? with
    | some x => okPast x.ins x.term (I b)
    | none => true := by
  rw [Bool.eq_iff_iff, valuedF_iff, List.all_eq_true]
  constructor
  · intro hv b hb
    have hb : b < f.blocks.length := by simpa using hb
    rw [List.getElem?_eq_getElem hb]
    show okPast _ _ _ = true
    rw [okPast_iff]
    intro v he
    have hr := exposed_range he
    have := hv b _ v (List.getElem?_eq_getElem hb) he
    cases hc : I b v.toNat with
    | true => rfl
    | false => exact absurd ((h b v.toNat (by omega)).1 hc) this
  · intro hv b x v hx he hb
    have hr := exposed_range he
    have h1 := hv b (by simpa using (List.getElem?_eq_some_iff.1 hx).1)
    rw [hx] at h1
    have h2 := okPast_iff.1 h1 v he
    rw [(h b v.toNat (by omega)).2 hb] at h2
    cases h2

/-! ### How much is left -/
theorem cntB_succ (n : Nat) (T : Nat → Bool) : cntB (n + 1) T = cntB n T + (if T n then 1 else 0) := by
  unfold cntB
  rw [List.range_succ, List.filter_append, List.length_append]
  cases hT : T n <;> simp [hT]
theorem cntB_mono {S T : Nat → Bool} : ∀ {n : Nat}, (∀ i, i < n → S i = true → T i = true) → cntB n S ≤ cntB n T
  | 0, _ => by simp [cntB]
  | n + 1, h => by
    rw [cntB_succ, cntB_succ]
    have h1 := cntB_mono (n := n) fun i hi => h i (by omega)
    have h2 := h n (by omega)
    cases hS : S n with
    | false => simp only [Bool.false_eq_true, if_false]; omega
    | true => rw [h2 hS]; simp only [if_true]; omega
theorem cntB_lt {S T : Nat → Bool} {i : Nat} : ∀ {n : Nat}, (∀ i, i < n → S i = true → T i = true) → i < n → S i = false → T i = true → cntB n S < cntB n T
  | 0, _, h, _, _ => by omega
  | n + 1, h, hi, h1, h2 => by
    rw [cntB_succ, cntB_succ]
    by_cases e : i = n
    · subst e
      have h3 := cntB_mono (n := i) fun j hj => h j (by omega)
      rw [h1, h2]; simp only [Bool.false_eq_true, if_false, if_true]; omega
    · have h3 := cntB_lt (n := n) (fun j hj => h j (by omega)) (by omega) h1 h2
      have h4 := h n (by omega)
      cases hS : S n with
      | false => simp only [Bool.false_eq_true, if_false]; omega
      | true => rw [h4 hS]; simp only [if_true]; omega
def muI (n : Nat) (I : IV) : Nat := ((List.range n).map fun b => cntB 201 (I b)).sum
theorem muI_set {I : IV} {to : Nat} {s : VS} : ∀ {n : Nat}, to < n → cntB 201 s < cntB 201 (I to) → muI n (setI I to s) < muI n I
  | 0, h, _ => by omega
  | n + 1, h, h2 => by
    have hs : ∀ J : IV, muI (n + 1) J = muI n J + cntB 201 (J n) := fun J => by unfold muI; rw [List.range_succ, List.map_append, List.sum_append]; simp
    rw [hs, hs]
    by_cases e : to = n
    · subst e
      have h3 : muI to (setI I to s) = muI to I := by
        unfold muI
        congr 1
        apply List.map_congr_left
        intro b hb
        have : b < to := by simpa using hb
        unfold setI; rw [if_neg (by omega)]
      have h4 : setI I to s to = s := by unfold setI; rw [if_pos rfl]
      rw [h3, h4]; omega
    · have h3 := muI_set (I := I) (s := s) (n := n) (by omega) h2
      have h4 : setI I to s n = I n := by unfold setI; rw [if_neg (fun e2 => e e2.symm)]
      rw [h4]; omega
theorem setI_self {I : IV} {b : Nat} {s : VS} (h : ∀ v, v < 201 → s v = I b v) (x v : Nat) (hv : v < 201) : setI I b s x v = I x v := by
  unfold setI
  by_cases e : x = b
  · rw [if_pos e, e]; exact h v hv
  · rw [if_neg e]

/-! ### How they lie -/
def sameV (s t : VS) : Bool := (List.range 201).all fun v => s v == t v
theorem sameV_iff {s t : VS} : sameV s t = true ↔ encV s = encV t := by
  unfold sameV
  rw [List.all_eq_true]
  constructor
  · exact fun h => encV_congr fun i hi => by simpa using h i (by simpa using hi)
  · exact fun h i hi => by simpa using encV_inj h (by simpa using hi)
theorem sameV_at {s t : VS} (h : sameV s t = true) {v : Nat} (hv : v < 201) : s v = t v := encV_inj (sameV_iff.1 h) hv
def inA (n : Nat) (I : IV) : Array Value := rngV (n * 201) fun q => .bool (I (q / 201) (q % 201))
theorem inA_size (n : Nat) (I : IV) : (inA n I).size = n * 201 := rngV_size _ _
theorem inA_get {n b v : Nat} {I : IV} (hb : b < n) (hv : v < 201) : (inA n I)[b * 201 + v]? = some (.bool (I b v)) := by
  unfold inA
  have h1 : b * 201 + v < n * 201 := by
    have : (b + 1) * 201 ≤ n * 201 := Nat.mul_le_mul_right _ hb
    omega
  rw [rngV_get h1]
  have h2 : (b * 201 + v) / 201 = b := by omega
  have h3 : (b * 201 + v) % 201 = v := by omega
  rw [h2, h3]
theorem inA_put {n b v : Nat} {I : IV} {u : Bool} (hv : v < 201) : (inA n I).setIfInBounds (b * 201 + v) (.bool u) = inA n (setI I b (putV (I b) v u)) := by
  unfold inA
  rw [rngV_set]
  refine rngV_congr fun q hq => ?_
  unfold setI putV
  by_cases e : q = b * 201 + v
  · have h2 : q / 201 = b := by omega
    have h3 : q % 201 = v := by omega
    rw [if_pos e, if_pos h2, if_pos h3]
  · rw [if_neg e]
    by_cases h2 : q / 201 = b
    · rw [if_pos h2, if_neg (by omega), h2]
    · rw [if_neg h2]
theorem inA_sta {n b : Nat} {I : IV} {s : VS} (hb : b < n) : ((inA n I).toList.take (b * 201) ++ (encV s).toList ++ (inA n I).toList.drop (b * 201 + 201)).toArray = inA n (setI I b s) := by
  have hle : (b + 1) * 201 ≤ n * 201 := Nat.mul_le_mul_right _ hb
  have hsz := inA_size n I
  apply Array.ext'
  apply List.ext_getElem?
  intro q
  have hl1 : ((inA n I).toList.take (b * 201)).length = b * 201 := by simp [hsz]; omega
  have hl2 : (encV s).toList.length = 201 := by simp [encV]
  have hget : ∀ (J : IV) (q : Nat), q < n * 201 → (inA n J)[q]? = some (.bool (J (q / 201) (q % 201))) := fun J q hq => rngV_get hq
  rw [Array.getElem?_toList (xs := inA n (setI I b s))]
  show ((inA n I).toList.take (b * 201) ++ (encV s).toList ++ (inA n I).toList.drop (b * 201 + 201))[q]? = _
  by_cases h1 : q < b * 201
  · rw [List.append_assoc, List.getElem?_append_left (by omega), List.getElem?_take, if_pos h1, Array.getElem?_toList, hget I q (by omega), hget _ q (by omega)]
    unfold setI; rw [if_neg (by omega)]
  · by_cases h2 : q < b * 201 + 201
    · rw [List.append_assoc, List.getElem?_append_right (by omega), hl1, List.getElem?_append_left (by omega), Array.getElem?_toList, encV_get (by omega), hget _ q (by omega)]
      unfold setI
      rw [if_pos (by omega), show q - b * 201 = q % 201 by omega]
    · rw [List.getElem?_append_right (by simp only [List.length_append]; omega), List.length_append, hl1, hl2, List.getElem?_drop, Array.getElem?_toList, show b * 201 + 201 + (q - (b * 201 + 201)) = q by omega]
      by_cases h3 : q < n * 201
      · rw [hget I q h3, hget _ q h3]
        unfold setI; rw [if_neg (by omega)]
      · rw [Array.getElem?_eq_none (by omega), Array.getElem?_eq_none (by rw [inA_size]; omega)]
theorem inA_congr {n : Nat} {I J : IV} (h : ∀ b v, b < n → v < 201 → I b v = J b v) : inA n I = inA n J := rngV_congr fun q hq => by rw [h _ _ (by omega) (Nat.mod_lt _ (by decide))]
theorem inA_load {n b : Nat} {I : IV} (hb : b < n) : ∀ (j : Nat) (u : Value), (encV (I b)).toList[j]? = some u → (inA n I)[b * 201 + j]? = some u := fun j u hu => by
  have hj : j < 201 := by have := (List.getElem?_eq_some_iff.1 hu).1; simpa [encV] using this
  rw [inA_get hb hj]
  rw [Array.getElem?_toList, encV_get hj] at hu
  exact hu
theorem made_inA (n : Nat) : (madeCells (Array.replicate 201 (Value.bool false)) (n * 201)) = inA n fun _ _ => false := by
  apply Array.ext'
  apply List.ext_getElem?
  intro i
  rw [Array.getElem?_toList, Array.getElem?_toList]
  by_cases h : i < n * 201
  · unfold inA
    rw [rngV_get h]
    have : i % 201 < 201 := Nat.mod_lt _ (by decide)
    simp [madeCells, h, this]
  · have h1 : (madeCells (Array.replicate 201 (Value.bool false)) (n * 201))[i]? = none := Array.getElem?_eq_none (by simp [madeCells]; omega)
    have h2 : (inA n fun _ _ => false)[i]? = none := Array.getElem?_eq_none (by rw [inA_size]; omega)
    rw [h1, h2]
theorem encV_tell {s t : VS} : ∀ (i : Nat) (a b : Value), (encV s)[i]? = some a → (encV t)[i]? = some b → Tell .bool a b := fun i a b ha hb => by
  have hi : i < 201 := by have := (Array.getElem?_eq_some_iff.1 ha).1; simpa [encV] using this
  rw [encV_get hi] at ha hb
  cases ha; cases hb
  exact Tell.bool
end Go.Proofs.YtcojedoejpcolaaGreat

/- The package flow: edges, walked. -/
namespace Go.Proofs.YtcojedoejpcolaaGreat
set_option linter.unusedVariables false
open Go Go.RowKit
set_option maxRecDepth 100000

theorem RBlk.one (b : RBlk) : ∀ u ∈ b.cells, u.oneCell' = true := by
  intro u hu
  simp only [RBlk.cells, Tm.cells, List.mem_cons, List.not_mem_nil, or_false] at hu
  rcases hu with rfl | rfl | rfl | rfl | rfl <;> rfl
theorem Ed.one (e : Ed) : ∀ u ∈ e.cells, u.oneCell' = true := by
  intro u hu
  simp only [Ed.cells, List.mem_cons, List.not_mem_nil, or_false] at hu
  rcases hu with rfl | rfl | rfl <;> rfl
theorem Ed.one1 (e : Ed) : ∀ u ∈ [e.val].flatMap (fun v => v.cells.toList), u.oneCell' = true := by
  intro u hu
  have hu : u ∈ e.cells := by simpa [Ed.val, Value.cells] using hu
  exact e.one u hu
theorem edV_one (l : List Ed) : ∀ u ∈ edV l, u.oneCell' = true := by
  intro u hu
  simp only [edV, List.mem_flatMap] at hu
  obtain ⟨e, _, h⟩ := hu
  exact e.one u h
def ysE (ts : List Tm) : List (List Value) := (edges ts).map fun e => [e.val]
theorem ysE_get {ts : List Tm} {k : Nat} {vs : List Value} (h : (ysE ts)[k]? = some vs) : ∃ e, (edges ts)[k]? = some e ∧ vs = [e.val] ∧ k < (edges ts).length := by
  unfold ysE at h
  rw [List.getElem?_map] at h
  cases hn : (edges ts)[k]? with
  | none => rw [hn] at h; cases h
  | some e => rw [hn] at h; cases h; exact ⟨e, rfl, rfl, (List.getElem?_eq_some_iff.1 hn).1⟩
theorem ysE_len (ts : List Tm) : (ysE ts).length = (edges ts).length := by simp [ysE]
theorem ysE_one {ts : List Tm} : ∀ vs ∈ ysE ts, vs.length = 1 := by
  intro vs hvs
  unfold ysE at hvs
  rw [List.mem_map] at hvs
  obtain ⟨e, _, rfl⟩ := hvs
  rfl
/-- A function value that tells whether something is so of edges. -/
def TellsE (P : Program) (w : World) (g : FuncId) (fst cap : Array Value) (ts : List Tm) (p : Ed → Bool) : Prop := Ent P g ∧ ∀ e ∈ edges ts, ∀ w', Below w.heap.size w w' → Ct P g (fst ++ #[e.val] ++ cap) w' (Is (.bool (p e)))
theorem filter_snoc {ts : List Tm} {p : Ed → Bool} {k : Nat} {e : Ed} (h : (edges ts)[k]? = some e) : ((edges ts).take (k + 1)).filter p = ((edges ts).take k).filter p ++ (if p e = true then [e] else []) := by
  rw [take_snoc_ h, List.filter_append]
  congr 1
  by_cases hp : p e = true <;> simp [hp]
theorem edV_app (a b : List Ed) : edV (a ++ b) = edV a ++ edV b := by simp [edV]
theorem closed_len {ts : List Tm} (h : closed ts = true) : 0 < ts.length ∧ ts.length ≤ 200 ∧ ∀ e ∈ edges ts, 0 ≤ e.to ∧ e.to < (ts.length : Int) := by
  unfold closed at h
  simp only [Bool.and_eq_true, decide_eq_true_eq, List.all_eq_true] at h
  exact ⟨h.1.2, h.2, fun e he => h.1.1 e he⟩
end Go.Proofs.YtcojedoejpcolaaGreat

/- The package ir: what is behind a block; long, whole functions: walked. -/
namespace Go.Proofs.YtcojedoejpcolaaGreat
set_option linter.unusedVariables false
open Go Go.RowKit
set_option maxRecDepth 100000

theorem hasV_congr {s s' : VS} {l : List Int} (h : ∀ n ∈ l, s n.toNat = s' n.toNat) : hasV s l = hasV s' l := by
  unfold hasV
  rw [Bool.eq_iff_iff, List.all_eq_true, List.all_eq_true]
  exact ⟨fun h2 n hn => by rw [← h n hn]; exact h2 n hn, fun h2 n hn => by rw [h n hn]; exact h2 n hn⟩
/-- A function value that tells whether something is so of what a list holds. -/
def TellsG {α : Type} (P : Program) (w : World) (g : FuncId) (fst cap : Array Value) (l : List α) (v : α → Value) (p : α → Bool) : Prop := Ent P g ∧ ∀ x ∈ l, ∀ w', Below w.heap.size w w' → Ct P g (fst ++ #[v x] ++ cap) w' (Is (.bool (p x)))
theorem blk_cell {l : List RBlk} {k j : Nat} {b : RBlk} {u : Value} (hk : l[k]? = some b) (hu : b.cells[j]? = some u) : (l.flatMap RBlk.cells)[k * 5 + j]? = some u := by
  rw [flat_get RBlk.len _ _ _ _ hk (by have := (List.getElem?_eq_some_iff.1 hu).1; rw [RBlk.len] at this; exact this)]; exact hu
theorem setReads {w' : World} {B i g : Nat} {w0 : World} {M L : List Res} {s : VS} {e : TypeId} (hh : Hp w0 B (M ++ L) w') (hi : L[i]? = some (blk g (.cells (encV s) e))) : Reads w' w'.heap.size 1 (some ⟨g, 0, none⟩) 201 (encV s).toList :=
  Reads.blk hh hi (by simp [encV]) (fun j u hu => by simpa using hu)
section
theorem slices_IndexFunc_Ins_ct {w : World} {A : Option Addr} {c : Nat} {l : List RIns} {g : FuncId} {fst cap : Array Value} {p : RIns → Bool} (hl : Reads w w.heap.size 8 A l.length (l.flatMap RIns.cells)) (hb : l.length < 2 ^ 62) (hf : TellsG Tryz.prog w g fst cap l RIns.val p) :
    Ct Tryz.prog 155 #[.slice A l.length c, .func (.func g) fst cap] w (Is (.int .i64 (indexI p l))) := by
  refine Ct.mk Tryz.func155 rfl rfl ?_
  refine Cd.seq ?_
  refine Cd.region ?_
  refine Ol.p asi ?_
  refine Ol.nil ?_
  refine Cd.seq ?_
  refine Cd.seq ?_
  refine Cd.region ?_
  refine Ol.p mvs ?_
  refine Ol.p (lens sl_L_api_Ins) ?_
  refine Ol.p mvi ?_
  refine Ol.nil ?_
  refine Cd.block ?_
  refine Cd.loop (fun m σ L => ∃ k, m = l.length - k ∧ k ≤ l.length ∧ Has σ [(0, .slice A l.length c), (1, .func (.func g) fst cap), (7, .int .i64 l.length), (8, .int .i64 k)] ∧ L = [] ∧ ∀ i y, i < k → l[i]? = some y → p y = false) (n := l.length) ⟨0, rfl, Nat.zero_le _, ⟨rfl, rfl, rfl, rfl, trivial⟩, rfl, fun i y h => by omega⟩ ?_
  rintro _ σ L ⟨k, rfl, hk, hs, rfl, hno⟩
  refine Cd.has hs ?_
  refine Cd.seq ?_
  refine Cd.region ?_
  refine Ol.p lsi ?_
  refine Ol.nil ?_
  refine Cd.seq ?_
  refine Cd.cond rfl (fun h => ?_) (fun h => ?_)
  · have hlt : k < l.length := by
      simp only [decide_eq_true_eq] at h; omega
    obtain ⟨x, hx⟩ : ∃ x, l[k]? = some x := ⟨_, List.getElem?_eq_getElem hlt⟩
    refine Cd.skip ?_
    refine Cd.seq ?_
    refine Cd.block ?_
    refine Cd.seq ?_
    refine Cd.region ?_
    refine Ol.p mvi ?_
    refine Ol.p asi ?_
    refine Ol.nil ?_
    refine Cd.seq ?_
    refine Cd.region ?_
    refine Ol.p mvf ?_
    refine Ol.p mvs ?_
    refine Ol.p mvi ?_
    refine Ol.p (ixn sl_L_api_Ins (Som.slc hl (by omega))) ?_
    refine Ol.p (lds (es := x.cells) ag_api_Ins hl x.len (fun j u hu => ins_cell hx hu)) ?_
    refine Ol.x (sp_callv hf.1 (fun M w' hh => hf.2 x (List.mem_of_getElem? hx) w' hh.below)) ?_
    rintro _ _ ⟨_, rfl, rfl, rfl⟩
    refine Ol.nil ?_
    refine Cd.cond rfl (fun h2 => ?_) (fun h2 => ?_)
    · refine Cd.seq ?_
      refine Cd.region ?_
      refine Ol.p mvi ?_
      refine Ol.p asi ?_
      refine Ol.nil ?_
      refine Cd.ret ⟨_, ret1 rfl rfl, [], .nil, ?_, rfl⟩
      rw [indexI_at hx h2 hno]
      rfl
    · refine Cd.skip ?_
      refine Cd.region ?_
      refine Ol.p addi ?_
      refine Ol.p mvi ?_
      refine Ol.nil ?_
      refine ⟨l.length - (k + 1), by omega, k + 1, rfl, by omega, ⟨rfl, rfl, rfl, rfl, trivial⟩, rfl, ?_⟩
      intro i y hi hy
      rcases Nat.lt_or_ge i k with h3 | h3
      · exact hno i y h3 hy
      · have : i = k := by omega
        subst this
        rw [hx] at hy
        cases hy
        exact h2
  · have hge : k = l.length := by
      simp only [decide_eq_false_iff_not] at h; omega
    subst hge
    refine Cd.exit (id := 0) ?_
    refine Cd.seq ?_
    refine Cd.region ?_
    refine Ol.p asi ?_
    refine Ol.nil ?_
    refine Cd.ret ⟨_, ret1 rfl rfl, [], .nil, ?_, rfl⟩
    rw [indexI_none hno]
    rfl
theorem slices_ContainsFunc_Ins_ct {w : World} {A : Option Addr} {c : Nat} {l : List RIns} {g : FuncId} {fst cap : Array Value} {p : RIns → Bool} (hl : Reads w w.heap.size 8 A l.length (l.flatMap RIns.cells)) (hb : l.length < 2 ^ 62) (hf : TellsG Tryz.prog w g fst cap l RIns.val p) :
    Ct Tryz.prog 128 #[.slice A l.length c, .func (.func g) fst cap] w (Is (.bool (l.any p))) := by
  refine Ct.mk Tryz.func128 rfl rfl ?_
  refine Cd.seq ?_
  refine Cd.region ?_
  refine Ol.p asb ?_
  refine Ol.nil ?_
  refine Cd.seq ?_
  refine Cd.region ?_
  refine Ol.p mvs ?_
  refine Ol.p mvf ?_
  refine Ol.s (cl en_slices_IndexFunc_L_api_Ins_api_Ins (fun M w' hh => slices_IndexFunc_Ins_ct (hl.now hh) hb ⟨hf.1, fun n hn w2 h2 => hf.2 n hn w2 (hh.below.trans (h2.mono hh.le))⟩)) ?_
  refine Ol.p gei ?_
  refine Ol.p asb ?_
  refine Ol.nil ?_
  refine Cd.ret ⟨.bool _, ret1 rfl rfl, [], .nil, ?_, rfl⟩
  rw [indexI_ge]
end
section
theorem slices_IndexFunc_Block_ct {w : World} {A : Option Addr} {c : Nat} {l : List RBlk} {g : FuncId} {fst cap : Array Value} {p : RBlk → Bool} (hl : Reads w w.heap.size 5 A l.length (l.flatMap RBlk.cells)) (hb : l.length < 2 ^ 62) (hf : TellsG Tryz.prog w g fst cap l RBlk.val p) :
    Ct Tryz.prog 154 #[.slice A l.length c, .func (.func g) fst cap] w (Is (.int .i64 (indexI p l))) := by
  refine Ct.mk Tryz.func154 rfl rfl ?_
  refine Cd.seq ?_
  refine Cd.region ?_
  refine Ol.p asi ?_
  refine Ol.nil ?_
  refine Cd.seq ?_
  refine Cd.seq ?_
  refine Cd.region ?_
  refine Ol.p mvs ?_
  refine Ol.p (lens sl_L_api_Block) ?_
  refine Ol.p mvi ?_
  refine Ol.nil ?_
  refine Cd.block ?_
  refine Cd.loop (fun m σ L => ∃ k, m = l.length - k ∧ k ≤ l.length ∧ Has σ [(0, .slice A l.length c), (1, .func (.func g) fst cap), (7, .int .i64 l.length), (8, .int .i64 k)] ∧ L = [] ∧ ∀ i y, i < k → l[i]? = some y → p y = false) (n := l.length) ⟨0, rfl, Nat.zero_le _, ⟨rfl, rfl, rfl, rfl, trivial⟩, rfl, fun i y h => by omega⟩ ?_
  rintro _ σ L ⟨k, rfl, hk, hs, rfl, hno⟩
  refine Cd.has hs ?_
  refine Cd.seq ?_
  refine Cd.region ?_
  refine Ol.p lsi ?_
  refine Ol.nil ?_
  refine Cd.seq ?_
  refine Cd.cond rfl (fun h => ?_) (fun h => ?_)
  · have hlt : k < l.length := by
      simp only [decide_eq_true_eq] at h; omega
    obtain ⟨x, hx⟩ : ∃ x, l[k]? = some x := ⟨_, List.getElem?_eq_getElem hlt⟩
    refine Cd.skip ?_
    refine Cd.seq ?_
    refine Cd.block ?_
    refine Cd.seq ?_
    refine Cd.region ?_
    refine Ol.p mvi ?_
    refine Ol.p asi ?_
    refine Ol.nil ?_
    refine Cd.seq ?_
    refine Cd.region ?_
    refine Ol.p mvf ?_
    refine Ol.p mvs ?_
    refine Ol.p mvi ?_
    refine Ol.p (ixn sl_L_api_Block (Som.slc hl (by omega))) ?_
    refine Ol.p (lds (es := x.cells) ag_api_Block hl x.len (fun j u hu => blk_cell hx hu)) ?_
    refine Ol.x (sp_callv hf.1 (fun M w' hh => hf.2 x (List.mem_of_getElem? hx) w' hh.below)) ?_
    rintro _ _ ⟨_, rfl, rfl, rfl⟩
    refine Ol.nil ?_
    refine Cd.cond rfl (fun h2 => ?_) (fun h2 => ?_)
    · refine Cd.seq ?_
      refine Cd.region ?_
      refine Ol.p mvi ?_
      refine Ol.p asi ?_
      refine Ol.nil ?_
      refine Cd.ret ⟨_, ret1 rfl rfl, [], .nil, ?_, rfl⟩
      rw [indexI_at hx h2 hno]
      rfl
    · refine Cd.skip ?_
      refine Cd.region ?_
      refine Ol.p addi ?_
      refine Ol.p mvi ?_
      refine Ol.nil ?_
      refine ⟨l.length - (k + 1), by omega, k + 1, rfl, by omega, ⟨rfl, rfl, rfl, rfl, trivial⟩, rfl, ?_⟩
      intro i y hi hy
      rcases Nat.lt_or_ge i k with h3 | h3
      · exact hno i y h3 hy
      · have : i = k := by omega
        subst this
        rw [hx] at hy
        cases hy
        exact h2
  · have hge : k = l.length := by
      simp only [decide_eq_false_iff_not] at h; omega
    subst hge
    refine Cd.exit (id := 0) ?_
    refine Cd.seq ?_
    refine Cd.region ?_
    refine Ol.p asi ?_
    refine Ol.nil ?_
    refine Cd.ret ⟨_, ret1 rfl rfl, [], .nil, ?_, rfl⟩
    rw [indexI_none hno]
    rfl
theorem slices_ContainsFunc_Block_ct {w : World} {A : Option Addr} {c : Nat} {l : List RBlk} {g : FuncId} {fst cap : Array Value} {p : RBlk → Bool} (hl : Reads w w.heap.size 5 A l.length (l.flatMap RBlk.cells)) (hb : l.length < 2 ^ 62) (hf : TellsG Tryz.prog w g fst cap l RBlk.val p) :
    Ct Tryz.prog 126 #[.slice A l.length c, .func (.func g) fst cap] w (Is (.bool (l.any p))) := by
  refine Ct.mk Tryz.func126 rfl rfl ?_
  refine Cd.seq ?_
  refine Cd.region ?_
  refine Ol.p asb ?_
  refine Ol.nil ?_
  refine Cd.seq ?_
  refine Cd.region ?_
  refine Ol.p mvs ?_
  refine Ol.p mvf ?_
  refine Ol.s (cl en_slices_IndexFunc_L_api_Block_api_Block (fun M w' hh => slices_IndexFunc_Block_ct (hl.now hh) hb ⟨hf.1, fun n hn w2 h2 => hf.2 n hn w2 (hh.below.trans (h2.mono hh.le))⟩)) ?_
  refine Ol.p gei ?_
  refine Ol.p asb ?_
  refine Ol.nil ?_
  refine Cd.ret ⟨.bool _, ret1 rfl rfl, [], .nil, ?_, rfl⟩
  rw [indexI_ge]
end
section
set_option maxHeartbeats 1000000 in
theorem ir_set_past_ct {w : World} {s : VS} {b : RBlk} (hb : BlkAt w b) : Ct Tryz.prog 132 #[.agg (encV s), b.val] w (fun v R => ∃ s', v = .tuple #[.agg (encV s'), .bool (okPast b.ins b.term s)] ∧ R = []) := by
  have hbl := hb.len
  refine Ct.mk Tryz.func132 rfl rfl ?_
  refine Cd.seq ?_
  refine Cd.region ?_
  refine Ol.x bxg ?_
  rintro _ _ ⟨g2, rfl, rfl⟩
  refine Ol.x bxg ?_
  rintro _ _ ⟨g3, rfl, rfl⟩
  refine Ol.x (alc zr_ir_set) ?_
  rintro _ _ ⟨g4, rfl, rfl⟩
  refine Ol.p asb ?_
  refine Ol.nil ?_
  refine Cd.seq ?_
  refine Cd.seq ?_
  refine Cd.region ?_
  refine Ol.p (fdl fd_api_Block_0) ?_
  refine Ol.p (ld one_L_api_Ins (Rd.blk (i := 1) rfl rfl)) ?_
  refine Ol.p (lens sl_L_api_Ins) ?_
  refine Ol.p mvi ?_
  refine Ol.nil ?_
  obtain ⟨Z, hZ⟩ : ∃ Z, Z = encV fun _ => false := ⟨_, rfl⟩
  refine Cd.block ?_   -- 0
  refine Cd.loop (fun m σ L => ∃ k s', m = b.ins.length - k ∧ k ≤ b.ins.length ∧ Has σ [(2, .pointer (some ⟨g2, 0, none⟩)), (3, .pointer (some ⟨g3, 0, none⟩)), (4, .pointer (some ⟨g4, 0, none⟩)), (9, .slice b.iA b.ins.length b.iC), (10, .int .i64 b.ins.length), (11, .int .i64 k)] ∧ [blk g4 (.cells Z 145), blk g3 (.cells b.cells.toArray 34), blk g2 (.cells (encV s') 145)] = L ∧ okPast (b.ins.drop k) b.term s' = okPast b.ins b.term s) (n := b.ins.length) ⟨0, s, rfl, Nat.zero_le _, ⟨rfl, rfl, rfl, rfl, rfl, rfl, trivial⟩, by rw [hZ, ← zeroV]; rfl, rfl⟩ ?_
  rintro _ σ L ⟨k, s', rfl, hk, hs, rfl, hok⟩
  refine Cd.has hs ?_
  refine Cd.seq ?_
  refine Cd.region ?_
  refine Ol.p lsi ?_
  refine Ol.nil ?_
  refine Cd.seq ?_
  refine Cd.cond rfl (fun h => ?_) (fun h => ?_)   -- $12
  · have hlt : k < b.ins.length := by
      simp only [decide_eq_true_eq] at h; omega
    obtain ⟨i, hi⟩ : ∃ i, b.ins[k]? = some i := ⟨_, List.getElem?_eq_getElem hlt⟩
    have him := List.mem_of_getElem? hi
    have hia := hb.all i him
    have hdr : b.ins.drop k = i :: b.ins.drop (k + 1) := by
      rw [List.drop_eq_getElem_cons hlt, (List.getElem?_eq_some_iff.1 hi).2]
    rw [hdr] at hok
    have hdef := defI_range i
    obtain ⟨dn, hdn⟩ : ∃ dn : Nat, defI i = (dn : Int) := ⟨(defI i).toNat, by omega⟩
    have hdn2 : dn < 201 := by omega
    have hrl := readsL_len i
    refine Cd.skip ?_
    refine Cd.seq ?_
    refine Cd.block ?_   -- 1
    refine Cd.seq ?_
    refine Cd.region ?_
    refine Ol.p (ixn sl_L_api_Ins (Som.slc hb.ins (by omega))) ?_
    refine Ol.p (lds (es := i.cells) ag_api_Ins hb.ins i.len (fun j u hu => ins_cell hi hu)) ?_
    refine Ol.x (alc zr_api_Ins) ?_
    rintro _ _ ⟨g7, rfl, rfl⟩
    refine Ol.s (stw sz_api_Ins rfl i.one (i := 0) rfl rfl) ?_
    refine Ol.nil ?_
    refine Cd.seq ?_
    refine Cd.seq ?_
    refine Cd.region ?_
    refine Ol.p (ldw ag_api_Ins (i := 0) rfl rfl) ?_
    refine Ol.x (sp_call en_ir_Reads (fun M w' hh => ir_Reads_ct (hia.now hh))) ?_
    rintro _ _ ⟨_, rfl, A16, c16, rfl, rfl⟩
    refine Ol.s (cl en_P_ir_set_has (fun M w' hh => P_ir_set_has_ct (setReads hh (i := 4) rfl) (Reads.row hh (i := 0) rfl) (by omega) (fun n hn => by have := readsL_mem hn; omega))) ?_
    refine Ol.p noti ?_
    refine Ol.nil ?_
    refine Cd.cond rfl (fun h2 => ?_) (fun h2 => ?_)   -- $18
    · have h3 : hasV s' (readsL i) = false := by simpa using h2
      refine Cd.seq ?_
      refine Cd.region ?_
      refine Ol.p (ldw ag_ir_set (i := 4) rfl (encV_size _)) ?_
      refine Ol.s (stw sz_ir_set (encV_size _) (encV_one _) (i := 2) rfl (by rw [hZ]; exact encV_size _)) ?_
      refine Ol.p asb ?_
      refine Ol.nil ?_
      refine Cd.ret ⟨.tuple _, retct rfl ag_ir_set rfl rfl (i := 2) rfl (encV_size _), [], .nil, s', ?_, rfl⟩
      rw [← hok]
      show _ = Value.tuple #[_, .bool (hasV s' (readsL i) && _)]
      rw [h3]; rfl
    have h3 : hasV s' (readsL i) = true := by simpa using h2
    have hok2 : okPast (b.ins.drop (k + 1)) b.term (putV s' dn true) = okPast b.ins b.term s := by
      rw [← hok]
      show _ = (hasV s' (readsL i) && okPast (b.ins.drop (k + 1)) b.term (putV s' (defI i).toNat true))
      rw [h3, hdn, Bool.true_and, Int.toNat_natCast]
    refine Cd.skip ?_
    refine Cd.region ?_
    refine Ol.p (ldw ag_api_Ins (i := 1) rfl rfl) ?_
    refine Ol.s (cl en_ir_Defines (fun M w' hh => ir_Defines_ct (hia.now hh))) ?_
    refine Ol.p (ixl1 (ix := dn) ar_ir_set (hy := congrArg (Value.int .i64) hdn)) ?_
    refine Ol.s (sto (k := dn) (.inr sz_bool) rfl rfl (i := 4) rfl (by rw [encV_size]; exact hdn2) rfl) ?_
    refine Ol.keep (.sub (.cons _ (.cons _ (List.Sublist.refl _)))) ?_
    refine Ol.nil ?_
    refine Cd.region ?_
    refine Ol.p addi ?_
    refine Ol.p mvi ?_
    refine Ol.nil ?_
    exact ⟨b.ins.length - (k + 1), by omega, k + 1, putV s' dn true, rfl, by omega, ⟨rfl, rfl, rfl, rfl, rfl, rfl, trivial⟩, congrArg (fun cs => [blk g4 (.cells Z 145), blk g3 (.cells b.cells.toArray 34), blk g2 (.cells cs 145)]) encV_set.symm, hok2⟩
  have hk2 : k = b.ins.length := by
    simp only [decide_eq_false_iff_not] at h; omega
  subst hk2
  rw [List.drop_length] at hok
  refine Cd.exit (id := 0) ?_
  refine Cd.seq ?_
  have hnl := needsL_len b.term
  refine Cd.draw mixed 5 (fun opNo => match opNo with | 3 => some (NewL 3 1 (needsL b.term).length (ints (needsL b.term))) | 4 => some (Is (.bool (hasV s' (needsL b.term)))) | _ => none) (fun opNo => match opNo with | 4 => [3] | _ => []) (by kernel_rfl) (by intro q V h; split at h <;> cases h; exact ⟨_, _, none, 0, rfl, rfl⟩; exact ⟨_, [], rfl, rfl⟩) (fun u hu => ?_)
  refine Wk.p (ldw ag_ir_set (i := 2) rfl (encV_size _)) ?_
  refine Wk.p (fdl fd_api_Block_1) ?_
  refine Wk.p (ldp (k := 0 + 1) (vs := b.term.cells.toArray) ag_api_Term (i := 1) rfl rfl (fun j u hu => by rw [Nat.zero_add, Nat.add_comm]; simpa [RBlk.cells] using hu)) ?_
  refine Wk.x (V := NewL 3 1 (needsL b.term).length (ints (needsL b.term))) hu (sp_call en_ir_Needs (fun M w' hh => ir_Needs_ct (t := b.term))) ?_
  rintro _ _ hu3 ⟨A27, c27, rfl, rfl⟩
  refine Wk.xn (V := Is (.bool (hasV s' (needsL b.term)))) hu (l := [3]) rfl (by simp) (by rw [needs_cons hu3, needs_none]; exact (sp_call en_P_ir_set_has (fun M w' hh => P_ir_set_has_ct (setReads hh (i := 3) rfl) (Reads.row hh (i := 0) rfl) (by omega) (fun n hn => by have := needsL_mem hn; omega)))) ?_
  rintro _ _ hu4 ⟨rfl, rfl⟩
  refine Wk.nil ?_
  rw [needs_cons hu4, needs_cons hu3, needs_none]
  refine Ol.s (stw sz_ir_set (encV_size _) (encV_one _) (i := 1) rfl (by rw [hZ]; exact encV_size _)) ?_
  refine Ol.p asb ?_
  refine Ol.nil ?_
  refine Cd.ret ⟨.tuple _, retct rfl ag_ir_set rfl rfl (i := 1) rfl (encV_size _), [], .nil, s', ?_, rfl⟩
  rw [← hok]; rfl
end
section
theorem RBlk.val_cells (b : RBlk) : b.val = .agg b.cells.toArray := rfl
theorem ir_long_1_ct {w : World} {b : RBlk} : Ct Tryz.prog 127 #[b.val] w (Is (.bool (decide (64 < b.ins.length)))) := by
  refine Ct.mk Tryz.func127 rfl rfl ?_
  refine Cd.seq ?_
  refine Cd.region ?_
  refine Ol.x bxg ?_
  rintro _ _ ⟨g1, rfl, rfl⟩
  refine Ol.p asb ?_
  refine Ol.nil ?_
  refine Cd.seq ?_
  refine Cd.region ?_
  refine Ol.p (fdl fd_api_Block_0) ?_
  refine Ol.p (ld one_L_api_Ins (Rd.blk (i := 0) rfl rfl)) ?_
  refine Ol.p (lens sl_L_api_Ins) ?_
  refine Ol.p gti ?_
  refine Ol.p asb ?_
  refine Ol.nil ?_
  refine Cd.ret ⟨.bool _, ret1 rfl rfl, [], .nil, ?_, rfl⟩
  congr 1
  rw [decide_eq_decide]; omega
set_option maxHeartbeats 1000000 in
theorem ir_long_ct {w : World} {f : RFun} (hf : FunAt w w.heap.size f) (hfit : Fit f) : Ct Tryz.prog 82 #[f.val] w (Is (.bool (longF f))) := by
  have hbl := hfit.blen
  have e1 : decide ((f.blocks.length : Int) = 0) = decide (f.blocks.length = 0) := by rw [decide_eq_decide]; omega
  have e2 : decide ((200 : Int) < (f.blocks.length : Int)) = decide (200 < f.blocks.length) := by rw [decide_eq_decide]; omega
  have e3 : decide ((8 : Int) < (f.params.length : Int)) = decide (8 < f.params.length) := by rw [decide_eq_decide]; omega
  have e : longF f = (decide (f.blocks.length = 0) || decide (200 < f.blocks.length) || decide (8 < f.params.length) || f.blocks.any fun b => decide (64 < b.ins.length)) := rfl
  refine Ct.mk Tryz.func82 rfl rfl ?_
  refine Cd.seq ?_
  refine Cd.region ?_
  refine Ol.x bxg ?_
  rintro _ _ ⟨g1, rfl, rfl⟩
  refine Ol.p asb ?_
  refine Ol.nil ?_
  refine Cd.seq ?_
  cases c1 : decide (f.blocks.length = 0) with
  | true =>
    refine Cd.region ?_
    refine Ol.p (fdl fd_api_Func_1) ?_
    refine Ol.p (ld one_L_api_Block (Rd.blk (i := 0) rfl rfl)) ?_
    refine Ol.p (lens sl_L_api_Block) ?_
    refine Ol.p eqi ?_
    refine Ol.p mvb ?_
    refine Ol.gn (e1.trans c1) ?_
    refine Ol.gn (e1.trans c1) ?_
    refine Ol.gn (e1.trans c1) ?_
    refine Ol.gn (e1.trans c1) ?_
    refine Ol.p (pkTb (e1.trans c1)) ?_
    refine Ol.p mvb ?_
    refine Ol.gn rfl ?_
    refine Ol.gn rfl ?_
    refine Ol.gn rfl ?_
    refine Ol.gn rfl ?_
    refine Ol.p (pkTb rfl) ?_
    refine Ol.p mvb ?_
    refine Ol.gn rfl ?_
    refine Ol.gn rfl ?_
    refine Ol.gn rfl ?_
    refine Ol.p (pkTb rfl) ?_
    refine Ol.p asb ?_
    refine Ol.nil ?_
    exact Cd.ret ⟨.bool _, ret1 rfl rfl, [], .nil, by rw [e, c1]; rfl, rfl⟩
  | false =>
  cases c2 : decide (200 < f.blocks.length) with
  | true =>
    refine Cd.region ?_
    refine Ol.p (fdl fd_api_Func_1) ?_
    refine Ol.p (ld one_L_api_Block (Rd.blk (i := 0) rfl rfl)) ?_
    refine Ol.p (lens sl_L_api_Block) ?_
    refine Ol.p eqi ?_
    refine Ol.p mvb ?_
    refine Ol.gp (e1.trans c1) (fdl fd_api_Func_1) ?_
    refine Ol.gp (e1.trans c1) (ld one_L_api_Block (Rd.blk (i := 0) rfl rfl)) ?_
    refine Ol.gp (e1.trans c1) (lens sl_L_api_Block) ?_
    refine Ol.gp (e1.trans c1) gti ?_
    refine Ol.p (pkFb (e1.trans c1)) ?_
    refine Ol.p mvb ?_
    refine Ol.gn (e2.trans c2) ?_
    refine Ol.gn (e2.trans c2) ?_
    refine Ol.gn (e2.trans c2) ?_
    refine Ol.gn (e2.trans c2) ?_
    refine Ol.p (pkTb (e2.trans c2)) ?_
    refine Ol.p mvb ?_
    refine Ol.gn rfl ?_
    refine Ol.gn rfl ?_
    refine Ol.gn rfl ?_
    refine Ol.p (pkTb rfl) ?_
    refine Ol.p asb ?_
    refine Ol.nil ?_
    exact Cd.ret ⟨.bool _, ret1 rfl rfl, [], .nil, by rw [e, c1, c2]; rfl, rfl⟩
  | false =>
  cases c3 : decide (8 < f.params.length) with
  | true =>
    refine Cd.region ?_
    refine Ol.p (fdl fd_api_Func_1) ?_
    refine Ol.p (ld one_L_api_Block (Rd.blk (i := 0) rfl rfl)) ?_
    refine Ol.p (lens sl_L_api_Block) ?_
    refine Ol.p eqi ?_
    refine Ol.p mvb ?_
    refine Ol.gp (e1.trans c1) (fdl fd_api_Func_1) ?_
    refine Ol.gp (e1.trans c1) (ld one_L_api_Block (Rd.blk (i := 0) rfl rfl)) ?_
    refine Ol.gp (e1.trans c1) (lens sl_L_api_Block) ?_
    refine Ol.gp (e1.trans c1) gti ?_
    refine Ol.p (pkFb (e1.trans c1)) ?_
    refine Ol.p mvb ?_
    refine Ol.gp (e2.trans c2) (fdl fd_api_Func_0) ?_
    refine Ol.gp (e2.trans c2) (ld one_L_int (Rd.blk (i := 0) rfl rfl)) ?_
    refine Ol.gp (e2.trans c2) (lens sl_L_int) ?_
    refine Ol.gp (e2.trans c2) gti ?_
    refine Ol.p (pkFb (e2.trans c2)) ?_
    refine Ol.p mvb ?_
    refine Ol.gn (e3.trans c3) ?_
    refine Ol.gn (e3.trans c3) ?_
    refine Ol.gn (e3.trans c3) ?_
    refine Ol.p (pkTb (e3.trans c3)) ?_
    refine Ol.p asb ?_
    refine Ol.nil ?_
    exact Cd.ret ⟨.bool _, ret1 rfl rfl, [], .nil, by rw [e, c1, c2, c3]; rfl, rfl⟩
  | false =>
    refine Cd.region ?_
    refine Ol.p (fdl fd_api_Func_1) ?_
    refine Ol.p (ld one_L_api_Block (Rd.blk (i := 0) rfl rfl)) ?_
    refine Ol.p (lens sl_L_api_Block) ?_
    refine Ol.p eqi ?_
    refine Ol.p mvb ?_
    refine Ol.gp (e1.trans c1) (fdl fd_api_Func_1) ?_
    refine Ol.gp (e1.trans c1) (ld one_L_api_Block (Rd.blk (i := 0) rfl rfl)) ?_
    refine Ol.gp (e1.trans c1) (lens sl_L_api_Block) ?_
    refine Ol.gp (e1.trans c1) gti ?_
    refine Ol.p (pkFb (e1.trans c1)) ?_
    refine Ol.p mvb ?_
    refine Ol.gp (e2.trans c2) (fdl fd_api_Func_0) ?_
    refine Ol.gp (e2.trans c2) (ld one_L_int (Rd.blk (i := 0) rfl rfl)) ?_
    refine Ol.gp (e2.trans c2) (lens sl_L_int) ?_
    refine Ol.gp (e2.trans c2) gti ?_
    refine Ol.p (pkFb (e2.trans c2)) ?_
    refine Ol.p mvb ?_
    refine Ol.gp (e3.trans c3) (fdl fd_api_Func_1) ?_
    refine Ol.gp (e3.trans c3) (ld one_L_api_Block (Rd.blk (i := 0) rfl rfl)) ?_
    refine Ol.gs (e3.trans c3) (cl en_slices_ContainsFunc_L_api_Block_api_Block (fun M w' hh => slices_ContainsFunc_Block_ct (g := 127) (fst := #[]) (cap := #[]) (p := fun b => decide (64 < b.ins.length)) ((hf.now hh).blocks) (by omega) ⟨en_ir_long_1, fun b hb w2 h2 => ir_long_1_ct⟩)) ?_
    refine Ol.p (pkFb (e3.trans c3)) ?_
    refine Ol.p asb ?_
    refine Ol.nil ?_
    exact Cd.ret ⟨.bool _, ret1 rfl rfl, [], .nil, by rw [e, c1, c2, c3]; rfl, rfl⟩
end
section
theorem ir_whole_1_ct {w : World} {i : RIns} (hi : InsAt w i) : Ct Tryz.prog 129 #[i.val] w (Is (.bool (!isIns i))) := by
  refine Ct.mk Tryz.func129 rfl rfl ?_
  refine Cd.seq ?_
  refine Cd.region ?_
  refine Ol.x bxg ?_
  rintro _ _ ⟨g1, rfl, rfl⟩
  refine Ol.p asb ?_
  refine Ol.nil ?_
  refine Cd.seq ?_
  refine Cd.region ?_
  refine Ol.p (ldw ag_api_Ins (i := 0) rfl rfl) ?_
  refine Ol.s (cl en_ir_IsIns (fun M w' hh => ir_IsIns_ct (hi.now hh))) ?_
  refine Ol.p noti ?_
  refine Ol.p asb ?_
  refine Ol.nil ?_
  exact Cd.ret ⟨.bool _, ret1 rfl rfl, [], .nil, rfl, rfl⟩
theorem InsAt.below {w w' : World} {i : RIns} (h : InsAt w i) (hb : Below w.heap.size w w') : InsAt w' i := ⟨(h.args.below hb).more hb.size, h.len, h.callee⟩
end
end Go.Proofs.YtcojedoejpcolaaGreat

/- The document's answer of layer 03: instructions, what they read, functions' shape, walked. -/
namespace Go.Proofs.YtcojedoejpcolaaGreat
set_option linter.unusedVariables false
set_option linter.unusedSimpArgs false
open Go Go.RowKit
set_option maxRecDepth 100000

section
set_option maxHeartbeats 4000000 in
theorem ref03_IsIns_ct {w : World} {i : RIns} (hia : Reads w w.heap.size 1 i.aA i.args.length (ints i.args)) (hal : i.args.length < 2 ^ 60) : Ct Tryz.prog 34 #[i.val] w (Is (.bool (isIns i))) := by
  have hE := isIns_ref i
  refine Ct.mk Tryz.func34 rfl rfl ?_
  refine Cd.seq ?_
  refine Cd.region ?_
  refine Ol.x bxg ?_
  rintro _ _ ⟨g1, rfl, rfl⟩
  refine Ol.p asb ?_
  refine Ol.nil ?_
  refine Cd.seq ?_
  refine Cd.region ?_
  refine Ol.p (fdl fd_api_Ins_0) ?_
  refine Ol.p (ld (v := .int .i64 i.op) one_api_Op (Rd.blk (i := 0) rfl rfl)) ?_
  refine Ol.s (cl (v := .string (strB (hasS i.op))) en_ref03_has (fun M w' hh => ref03_has_ct)) ?_
  refine Ol.p (as_ rfl) ?_
  refine Ol.nil ?_
  refine Cd.seq ?_
  refine Cd.mid (fun σ' L' => Has σ' [(1, .pointer (some ⟨g1, 0, none⟩)), (3, .string (strB (hasS i.op))), (29, .bool (refB2 i))] ∧ [blk g1 (.cells i.cells.toArray 25)] = L') ?_ ?_
  · have e : refB2 i = (((strB (hasS i.op)).toList == (strB []).toList) || ((!decide (i.many = 0)) || ((!partB (hasS i.op) 97 i.a) || (!partB (hasS i.op) 98 i.b)))) := rfl
    cases q0 : ((strB (hasS i.op)).toList == (strB []).toList) with
    | false =>
      cases q1 : (!decide (i.many = 0)) with
      | false =>
        cases q2 : (!partB (hasS i.op) 97 i.a) with
        | false =>
          refine Cd.region ?_
          refine Ol.p (mv rfl) ?_
          refine Ol.p (eqS (a := strB (hasS i.op)) (b := strB [])) ?_
          refine Ol.p mvb ?_
          refine Ol.gp q0 (fdl fd_api_Ins_7) ?_
          refine Ol.gp q0 (ld (v := .int .i64 i.many) one_int (Rd.blk (i := 0) rfl rfl)) ?_
          refine Ol.gp q0 nei ?_
          refine Ol.p (pkFb q0) ?_
          refine Ol.p mvb ?_
          refine Ol.gp q1 (mv rfl) ?_
          refine Ol.gp q1 (fdl fd_api_Ins_2) ?_
          refine Ol.gp q1 (ld (v := .int .i64 i.a) one_int (Rd.blk (i := 0) rfl rfl)) ?_
          refine Ol.gs q1 (cl (v := .bool (partB (hasS i.op) 97 i.a)) en_ref03_part (fun M w' hh => ref03_part_ct (hasS_len _))) ?_
          refine Ol.gp q1 noti ?_
          refine Ol.p (pkFb q1) ?_
          refine Ol.p mvb ?_
          refine Ol.gp q2 (mv rfl) ?_
          refine Ol.gp q2 (fdl fd_api_Ins_3) ?_
          refine Ol.gp q2 (ld (v := .int .i64 i.b) one_int (Rd.blk (i := 0) rfl rfl)) ?_
          refine Ol.gs q2 (cl (v := .bool (partB (hasS i.op) 98 i.b)) en_ref03_part (fun M w' hh => ref03_part_ct (hasS_len _))) ?_
          refine Ol.gp q2 noti ?_
          refine Ol.p (pkFb q2) ?_
          refine Ol.nil ?_
          exact ⟨⟨rfl, rfl, congrArg Value.bool (by rw [e, q0, q1, q2]; try rfl), trivial⟩, rfl⟩
        | true =>
          refine Cd.region ?_
          refine Ol.p (mv rfl) ?_
          refine Ol.p (eqS (a := strB (hasS i.op)) (b := strB [])) ?_
          refine Ol.p mvb ?_
          refine Ol.gp q0 (fdl fd_api_Ins_7) ?_
          refine Ol.gp q0 (ld (v := .int .i64 i.many) one_int (Rd.blk (i := 0) rfl rfl)) ?_
          refine Ol.gp q0 nei ?_
          refine Ol.p (pkFb q0) ?_
          refine Ol.p mvb ?_
          refine Ol.gp q1 (mv rfl) ?_
          refine Ol.gp q1 (fdl fd_api_Ins_2) ?_
          refine Ol.gp q1 (ld (v := .int .i64 i.a) one_int (Rd.blk (i := 0) rfl rfl)) ?_
          refine Ol.gs q1 (cl (v := .bool (partB (hasS i.op) 97 i.a)) en_ref03_part (fun M w' hh => ref03_part_ct (hasS_len _))) ?_
          refine Ol.gp q1 noti ?_
          refine Ol.p (pkFb q1) ?_
          refine Ol.p mvb ?_
          refine Ol.gn q2 ?_
          refine Ol.gn q2 ?_
          refine Ol.gn q2 ?_
          refine Ol.gn q2 ?_
          refine Ol.gn q2 ?_
          refine Ol.p (pkTb q2) ?_
          refine Ol.nil ?_
          exact ⟨⟨rfl, rfl, congrArg Value.bool (by rw [e, q0, q1, q2]; try rfl), trivial⟩, rfl⟩
      | true =>
        refine Cd.region ?_
        refine Ol.p (mv rfl) ?_
        refine Ol.p (eqS (a := strB (hasS i.op)) (b := strB [])) ?_
        refine Ol.p mvb ?_
        refine Ol.gp q0 (fdl fd_api_Ins_7) ?_
        refine Ol.gp q0 (ld (v := .int .i64 i.many) one_int (Rd.blk (i := 0) rfl rfl)) ?_
        refine Ol.gp q0 nei ?_
        refine Ol.p (pkFb q0) ?_
        refine Ol.p mvb ?_
        refine Ol.gn q1 ?_
        refine Ol.gn q1 ?_
        refine Ol.gn q1 ?_
        refine Ol.gn q1 ?_
        refine Ol.gn q1 ?_
        refine Ol.p (pkTb q1) ?_
        refine Ol.p mvb ?_
        refine Ol.gn rfl ?_
        refine Ol.gn rfl ?_
        refine Ol.gn rfl ?_
        refine Ol.gn rfl ?_
        refine Ol.gn rfl ?_
        refine Ol.p (pkTb rfl) ?_
        refine Ol.nil ?_
        exact ⟨⟨rfl, rfl, congrArg Value.bool (by rw [e, q0, q1]; try rfl), trivial⟩, rfl⟩
    | true =>
      refine Cd.region ?_
      refine Ol.p (mv rfl) ?_
      refine Ol.p (eqS (a := strB (hasS i.op)) (b := strB [])) ?_
      refine Ol.p mvb ?_
      refine Ol.gn q0 ?_
      refine Ol.gn q0 ?_
      refine Ol.gn q0 ?_
      refine Ol.p (pkTb q0) ?_
      refine Ol.p mvb ?_
      refine Ol.gn rfl ?_
      refine Ol.gn rfl ?_
      refine Ol.gn rfl ?_
      refine Ol.gn rfl ?_
      refine Ol.gn rfl ?_
      refine Ol.p (pkTb rfl) ?_
      refine Ol.p mvb ?_
      refine Ol.gn rfl ?_
      refine Ol.gn rfl ?_
      refine Ol.gn rfl ?_
      refine Ol.gn rfl ?_
      refine Ol.gn rfl ?_
      refine Ol.p (pkTb rfl) ?_
      refine Ol.nil ?_
      exact ⟨⟨rfl, rfl, congrArg Value.bool (by rw [e, q0]; try rfl), trivial⟩, rfl⟩
  rintro σ' _ ⟨hs', rfl⟩
  refine Cd.has hs' ?_
  clear hs'
  refine Cd.cond rfl (fun h => ?_) (fun hB => ?_)   -- $29
  · refine Cd.seq ?_
    refine Cd.region ?_
    refine Ol.p asb ?_
    refine Ol.nil ?_
    exact Cd.ret ⟨.bool false, ret1 rfl rfl, [], Keep.nil, by rw [hE, h]; rfl, rfl⟩
  rw [hB, cond_false] at hE
  refine Cd.skip ?_
  refine Cd.seq ?_
  refine Cd.seq ?_
  refine Cd.region ?_
  refine Ol.p (mv rfl) ?_
  refine Ol.p (eqS (a := strB (hasS i.op)) (b := strB [99])) ?_
  refine Ol.nil ?_
  refine Cd.cond rfl (fun hc => ?_) (fun hc => ?_)   -- $31
  · rw [hc, cond_true] at hE
    refine Cd.seq ?_
    refine Cd.seq ?_
    refine Cd.region ?_
    refine Ol.p asi ?_
    refine Ol.nil ?_
    refine Cd.block ?_   -- 0
    refine Cd.loop (fun m σ L => ∃ k, m = i.args.length - k ∧ k ≤ i.args.length ∧ (i.args.take k).all varB = true ∧ Has σ [(1, .pointer (some ⟨g1, 0, none⟩)), (4, .int .i64 k)] ∧ [blk g1 (.cells i.cells.toArray 25)] = L) (n := i.args.length) ⟨0, rfl, Nat.zero_le _, rfl, ⟨rfl, rfl, trivial⟩, rfl⟩ ?_
    rintro _ σ L ⟨k, rfl, hk, hall, hs, rfl⟩
    refine Cd.has hs ?_
    clear hs
    refine Cd.seq ?_
    refine Cd.seq ?_
    refine Cd.region ?_
    refine Ol.p mvi ?_
    refine Ol.p (fdl fd_api_Ins_6) ?_
    refine Ol.p (ld (v := .slice i.aA i.args.length i.aC) one_L_int (Rd.blk (i := 0) rfl rfl)) ?_
    refine Ol.p (lens sl_L_int) ?_
    refine Ol.p lsi ?_
    refine Ol.nil ?_
    refine Cd.cond rfl (fun h => ?_) (fun h => ?_)   -- $36
    · have hlt : k < i.args.length := by
        have h : decide ((k : Int) < (i.args.length : Int)) = true := h
        have := of_decide_eq_true h
        omega
      obtain ⟨n, hn⟩ : ∃ n, i.args[k]? = some n := ⟨_, List.getElem?_eq_getElem hlt⟩
      refine Cd.skip ?_
      refine Cd.seq ?_
      refine Cd.block ?_   -- 1
      refine Cd.seq ?_
      refine Cd.region ?_
      refine Ol.p (fdl fd_api_Ins_6) ?_
      refine Ol.p (ld (v := .slice i.aA i.args.length i.aC) one_L_int (Rd.blk (i := 0) rfl rfl)) ?_
      refine Ol.p mvi ?_
      refine Ol.p (ixn (ix := k) sl_L_int (Som.slc hia (by omega))) ?_
      refine Ol.p (ld (v := .int .i64 n) one_int (Rd.slc hia (show (ints i.args)[k * 1]? = some (.int .i64 n) from by simp [ints, hn]))) ?_
      refine Ol.s (cl en_ref03_Var (fun M w' hh => ref03_Var_ct)) ?_
      refine Ol.p noti ?_
      refine Ol.nil ?_
      refine Cd.cond rfl (fun h2 => ?_) (fun h2 => ?_)   -- $45
      · have hno : varB n = false := by simpa using h2
        have e : i.args.all varB = false := by
          rw [List.all_eq_false]
          exact ⟨n, List.mem_of_getElem? hn, by rw [hno]; exact fun h => by cases h⟩
        refine Cd.seq ?_
        refine Cd.region ?_
        refine Ol.p asb ?_
        refine Ol.nil ?_
        exact Cd.ret ⟨.bool false, ret1 rfl rfl, [], Keep.nil, by rw [hE, e]; rfl, rfl⟩
      have hyes : varB n = true := by simpa using h2
      refine Cd.skip ?_
      refine Cd.region ?_
      refine Ol.p mvi ?_
      refine Ol.p addi ?_
      refine Ol.p asi ?_
      refine Ol.nil ?_
      refine ⟨i.args.length - (k + 1), by omega, k + 1, rfl, by omega, ?_, ⟨rfl, rfl, trivial⟩, rfl⟩
      rw [take_snoc_ hn, List.all_append, hall]
      simp [hyes]
    have hke : k = i.args.length := by
      have h : decide ((k : Int) < (i.args.length : Int)) = false := h
      have := of_decide_eq_false h
      omega
    rw [hke, List.take_length] at hall
    rw [hall, Bool.true_and] at hE
    refine Cd.exit (id := 0) ?_
    refine Cd.seq ?_
    have e : refCall i = (decide ((i.args.length : Int) ≤ 8) && (decide (0 ≤ i.callee) && (decide (i.callee ≤ 99) && ((bif decide (i.dst = 0) then true else varB i.dst) && decide (i.imm = 0))))) := rfl
    cases q0 : decide ((i.args.length : Int) ≤ 8) with
    | true =>
      cases q1 : decide (0 ≤ i.callee) with
      | true =>
        cases q2 : decide (i.callee ≤ 99) with
        | true =>
          cases q3 : decide (i.dst = 0) with
          | true =>
            refine Cd.region ?_
            refine Ol.p (fdl fd_api_Ins_6) ?_
            refine Ol.p (ld (v := .slice i.aA i.args.length i.aC) one_L_int (Rd.blk (i := 0) rfl rfl)) ?_
            refine Ol.p (lens sl_L_int) ?_
            refine Ol.p lei ?_
            refine Ol.p mvb ?_
            refine Ol.gp q0 (fdl fd_api_Ins_5) ?_
            refine Ol.gp q0 (ld (v := .int .i64 i.callee) one_int (Rd.blk (i := 0) rfl rfl)) ?_
            refine Ol.gp q0 gei ?_
            refine Ol.p (pkTb q0) ?_
            refine Ol.p mvb ?_
            refine Ol.gp q1 (fdl fd_api_Ins_5) ?_
            refine Ol.gp q1 (ld (v := .int .i64 i.callee) one_int (Rd.blk (i := 0) rfl rfl)) ?_
            refine Ol.gp q1 lei ?_
            refine Ol.p (pkTb q1) ?_
            refine Ol.p mvb ?_
            refine Ol.gp q2 (fdl fd_api_Ins_1) ?_
            refine Ol.gp q2 (ld (v := .int .i64 i.dst) one_int (Rd.blk (i := 0) rfl rfl)) ?_
            refine Ol.gp q2 eqi ?_
            refine Ol.gp q2 mvb ?_
            refine Ol.gn q3 ?_
            refine Ol.gn q3 ?_
            refine Ol.gn q3 ?_
            refine Ol.gp q2 (pkTb q3) ?_
            refine Ol.p (pkTb q2) ?_
            refine Ol.p mvb ?_
            refine Ol.gp rfl (fdl fd_api_Ins_4) ?_
            refine Ol.gp rfl (ld (v := .int .i64 i.imm) one_int (Rd.blk (i := 0) rfl rfl)) ?_
            refine Ol.gp rfl eqi ?_
            refine Ol.p (pkTb rfl) ?_
            refine Ol.p asb ?_
            refine Ol.nil ?_
            refine Cd.ret ⟨.bool _, ret1 rfl rfl, [], Keep.nil, congrArg Value.bool ?_, rfl⟩
            rw [hE, e, q0, q1, q2, q3]; try rfl
          | false =>
            cases q4 : varB i.dst with
            | true =>
              refine Cd.region ?_
              refine Ol.p (fdl fd_api_Ins_6) ?_
              refine Ol.p (ld (v := .slice i.aA i.args.length i.aC) one_L_int (Rd.blk (i := 0) rfl rfl)) ?_
              refine Ol.p (lens sl_L_int) ?_
              refine Ol.p lei ?_
              refine Ol.p mvb ?_
              refine Ol.gp q0 (fdl fd_api_Ins_5) ?_
              refine Ol.gp q0 (ld (v := .int .i64 i.callee) one_int (Rd.blk (i := 0) rfl rfl)) ?_
              refine Ol.gp q0 gei ?_
              refine Ol.p (pkTb q0) ?_
              refine Ol.p mvb ?_
              refine Ol.gp q1 (fdl fd_api_Ins_5) ?_
              refine Ol.gp q1 (ld (v := .int .i64 i.callee) one_int (Rd.blk (i := 0) rfl rfl)) ?_
              refine Ol.gp q1 lei ?_
              refine Ol.p (pkTb q1) ?_
              refine Ol.p mvb ?_
              refine Ol.gp q2 (fdl fd_api_Ins_1) ?_
              refine Ol.gp q2 (ld (v := .int .i64 i.dst) one_int (Rd.blk (i := 0) rfl rfl)) ?_
              refine Ol.gp q2 eqi ?_
              refine Ol.gp q2 mvb ?_
              refine Ol.gp q3 (fdl fd_api_Ins_1) ?_
              refine Ol.gp q3 (ld (v := .int .i64 i.dst) one_int (Rd.blk (i := 0) rfl rfl)) ?_
              refine Ol.gs q3 (cl en_ref03_Var (fun M w' hh => ref03_Var_ct)) ?_
              refine Ol.gp q2 (pkFb q3) ?_
              refine Ol.p (pkTb q2) ?_
              refine Ol.p mvb ?_
              refine Ol.gp q4 (fdl fd_api_Ins_4) ?_
              refine Ol.gp q4 (ld (v := .int .i64 i.imm) one_int (Rd.blk (i := 0) rfl rfl)) ?_
              refine Ol.gp q4 eqi ?_
              refine Ol.p (pkTb q4) ?_
              refine Ol.p asb ?_
              refine Ol.nil ?_
              refine Cd.ret ⟨.bool _, ret1 rfl rfl, [], Keep.nil, congrArg Value.bool ?_, rfl⟩
              rw [hE, e, q0, q1, q2, q3, q4]; try rfl
            | false =>
              refine Cd.region ?_
              refine Ol.p (fdl fd_api_Ins_6) ?_
              refine Ol.p (ld (v := .slice i.aA i.args.length i.aC) one_L_int (Rd.blk (i := 0) rfl rfl)) ?_
              refine Ol.p (lens sl_L_int) ?_
              refine Ol.p lei ?_
              refine Ol.p mvb ?_
              refine Ol.gp q0 (fdl fd_api_Ins_5) ?_
              refine Ol.gp q0 (ld (v := .int .i64 i.callee) one_int (Rd.blk (i := 0) rfl rfl)) ?_
              refine Ol.gp q0 gei ?_
              refine Ol.p (pkTb q0) ?_
              refine Ol.p mvb ?_
              refine Ol.gp q1 (fdl fd_api_Ins_5) ?_
              refine Ol.gp q1 (ld (v := .int .i64 i.callee) one_int (Rd.blk (i := 0) rfl rfl)) ?_
              refine Ol.gp q1 lei ?_
              refine Ol.p (pkTb q1) ?_
              refine Ol.p mvb ?_
              refine Ol.gp q2 (fdl fd_api_Ins_1) ?_
              refine Ol.gp q2 (ld (v := .int .i64 i.dst) one_int (Rd.blk (i := 0) rfl rfl)) ?_
              refine Ol.gp q2 eqi ?_
              refine Ol.gp q2 mvb ?_
              refine Ol.gp q3 (fdl fd_api_Ins_1) ?_
              refine Ol.gp q3 (ld (v := .int .i64 i.dst) one_int (Rd.blk (i := 0) rfl rfl)) ?_
              refine Ol.gs q3 (cl en_ref03_Var (fun M w' hh => ref03_Var_ct)) ?_
              refine Ol.gp q2 (pkFb q3) ?_
              refine Ol.p (pkTb q2) ?_
              refine Ol.p mvb ?_
              refine Ol.gn q4 ?_
              refine Ol.gn q4 ?_
              refine Ol.gn q4 ?_
              refine Ol.p (pkFb q4) ?_
              refine Ol.p asb ?_
              refine Ol.nil ?_
              refine Cd.ret ⟨.bool _, ret1 rfl rfl, [], Keep.nil, congrArg Value.bool ?_, rfl⟩
              rw [hE, e, q0, q1, q2, q3, q4]; try rfl
        | false =>
          refine Cd.region ?_
          refine Ol.p (fdl fd_api_Ins_6) ?_
          refine Ol.p (ld (v := .slice i.aA i.args.length i.aC) one_L_int (Rd.blk (i := 0) rfl rfl)) ?_
          refine Ol.p (lens sl_L_int) ?_
          refine Ol.p lei ?_
          refine Ol.p mvb ?_
          refine Ol.gp q0 (fdl fd_api_Ins_5) ?_
          refine Ol.gp q0 (ld (v := .int .i64 i.callee) one_int (Rd.blk (i := 0) rfl rfl)) ?_
          refine Ol.gp q0 gei ?_
          refine Ol.p (pkTb q0) ?_
          refine Ol.p mvb ?_
          refine Ol.gp q1 (fdl fd_api_Ins_5) ?_
          refine Ol.gp q1 (ld (v := .int .i64 i.callee) one_int (Rd.blk (i := 0) rfl rfl)) ?_
          refine Ol.gp q1 lei ?_
          refine Ol.p (pkTb q1) ?_
          refine Ol.p mvb ?_
          refine Ol.gn q2 ?_
          refine Ol.gn q2 ?_
          refine Ol.gn q2 ?_
          refine Ol.gn q2 ?_
          refine Ol.gu ?_
          refine Ol.gu ?_
          refine Ol.gu ?_
          refine Ol.gn q2 ?_
          refine Ol.p (pkFb q2) ?_
          refine Ol.p mvb ?_
          refine Ol.gn rfl ?_
          refine Ol.gn rfl ?_
          refine Ol.gn rfl ?_
          refine Ol.p (pkFb rfl) ?_
          refine Ol.p asb ?_
          refine Ol.nil ?_
          refine Cd.ret ⟨.bool _, ret1 rfl rfl, [], Keep.nil, congrArg Value.bool ?_, rfl⟩
          rw [hE, e, q0, q1, q2]; try rfl
      | false =>
        refine Cd.region ?_
        refine Ol.p (fdl fd_api_Ins_6) ?_
        refine Ol.p (ld (v := .slice i.aA i.args.length i.aC) one_L_int (Rd.blk (i := 0) rfl rfl)) ?_
        refine Ol.p (lens sl_L_int) ?_
        refine Ol.p lei ?_
        refine Ol.p mvb ?_
        refine Ol.gp q0 (fdl fd_api_Ins_5) ?_
        refine Ol.gp q0 (ld (v := .int .i64 i.callee) one_int (Rd.blk (i := 0) rfl rfl)) ?_
        refine Ol.gp q0 gei ?_
        refine Ol.p (pkTb q0) ?_
        refine Ol.p mvb ?_
        refine Ol.gn q1 ?_
        refine Ol.gn q1 ?_
        refine Ol.gn q1 ?_
        refine Ol.p (pkFb q1) ?_
        refine Ol.p mvb ?_
        refine Ol.gn rfl ?_
        refine Ol.gn rfl ?_
        refine Ol.gn rfl ?_
        refine Ol.gn rfl ?_
        refine Ol.gu ?_
        refine Ol.gu ?_
        refine Ol.gu ?_
        refine Ol.gn rfl ?_
        refine Ol.p (pkFb rfl) ?_
        refine Ol.p mvb ?_
        refine Ol.gn rfl ?_
        refine Ol.gn rfl ?_
        refine Ol.gn rfl ?_
        refine Ol.p (pkFb rfl) ?_
        refine Ol.p asb ?_
        refine Ol.nil ?_
        refine Cd.ret ⟨.bool _, ret1 rfl rfl, [], Keep.nil, congrArg Value.bool ?_, rfl⟩
        rw [hE, e, q0, q1]; try rfl
    | false =>
      refine Cd.region ?_
      refine Ol.p (fdl fd_api_Ins_6) ?_
      refine Ol.p (ld (v := .slice i.aA i.args.length i.aC) one_L_int (Rd.blk (i := 0) rfl rfl)) ?_
      refine Ol.p (lens sl_L_int) ?_
      refine Ol.p lei ?_
      refine Ol.p mvb ?_
      refine Ol.gn q0 ?_
      refine Ol.gn q0 ?_
      refine Ol.gn q0 ?_
      refine Ol.p (pkFb q0) ?_
      refine Ol.p mvb ?_
      refine Ol.gn rfl ?_
      refine Ol.gn rfl ?_
      refine Ol.gn rfl ?_
      refine Ol.p (pkFb rfl) ?_
      refine Ol.p mvb ?_
      refine Ol.gn rfl ?_
      refine Ol.gn rfl ?_
      refine Ol.gn rfl ?_
      refine Ol.gn rfl ?_
      refine Ol.gu ?_
      refine Ol.gu ?_
      refine Ol.gu ?_
      refine Ol.gn rfl ?_
      refine Ol.p (pkFb rfl) ?_
      refine Ol.p mvb ?_
      refine Ol.gn rfl ?_
      refine Ol.gn rfl ?_
      refine Ol.gn rfl ?_
      refine Ol.p (pkFb rfl) ?_
      refine Ol.p asb ?_
      refine Ol.nil ?_
      refine Cd.ret ⟨.bool _, ret1 rfl rfl, [], Keep.nil, congrArg Value.bool ?_, rfl⟩
      rw [hE, e, q0]; try rfl
  rw [hc, cond_false] at hE
  refine Cd.skip ?_
  refine Cd.mid (fun σ' L' => Has σ' [(1, .pointer (some ⟨g1, 0, none⟩)), (3, .string (strB (hasS i.op))), (5, .bool (refImm i))] ∧ [blk g1 (.cells i.cells.toArray 25)] = L') ?_ ?_
  · have e : refImm i = bif decide (i.imm = 0) then true else (bif (hasS i.op).contains 105 then (bif decide (-1099511627776 ≤ i.imm) then decide (i.imm ≤ 1099511627776) else false) else false) := rfl
    cases q0 : decide (i.imm = 0) with
    | true =>
      refine Cd.region ?_
      refine Ol.p (fdl fd_api_Ins_4) ?_
      refine Ol.p (ld (v := .int .i64 i.imm) one_int (Rd.blk (i := 0) rfl rfl)) ?_
      refine Ol.p eqi ?_
      refine Ol.p mvb ?_
      refine Ol.gn q0 ?_
      refine Ol.gn q0 ?_
      refine Ol.gn q0 ?_
      refine Ol.gu ?_
      refine Ol.gu ?_
      refine Ol.gu ?_
      refine Ol.gn q0 ?_
      refine Ol.gn q0 ?_
      refine Ol.gu ?_
      refine Ol.gu ?_
      refine Ol.gu ?_
      refine Ol.gn q0 ?_
      refine Ol.p (pkTb q0) ?_
      refine Ol.p asb ?_
      refine Ol.nil ?_
      exact ⟨⟨rfl, rfl, congrArg Value.bool (by rw [e, q0]; try rfl), trivial⟩, rfl⟩
    | false =>
      cases q1 : (hasS i.op).contains 105 with
      | false =>
        refine Cd.region ?_
        refine Ol.p (fdl fd_api_Ins_4) ?_
        refine Ol.p (ld (v := .int .i64 i.imm) one_int (Rd.blk (i := 0) rfl rfl)) ?_
        refine Ol.p eqi ?_
        refine Ol.p mvb ?_
        refine Ol.gp q0 (mv rfl) ?_
        refine Ol.gs q0 (cl (v := .bool ((hasS i.op).contains 105)) en_ref03_in (fun M w' hh => ref03_in_ct (hasS_len _))) ?_
        refine Ol.gp q0 mvb ?_
        refine Ol.gn q1 ?_
        refine Ol.gn q1 ?_
        refine Ol.gn q1 ?_
        refine Ol.gp q0 (pkFb q1) ?_
        refine Ol.gp q0 mvb ?_
        refine Ol.gn rfl ?_
        refine Ol.gn rfl ?_
        refine Ol.gn rfl ?_
        refine Ol.gp q0 (pkFb rfl) ?_
        refine Ol.p (pkFb q0) ?_
        refine Ol.p asb ?_
        refine Ol.nil ?_
        exact ⟨⟨rfl, rfl, congrArg Value.bool (by rw [e, q0, q1]; try rfl), trivial⟩, rfl⟩
      | true =>
        cases q2 : decide (-1099511627776 ≤ i.imm) with
        | true =>
          refine Cd.region ?_
          refine Ol.p (fdl fd_api_Ins_4) ?_
          refine Ol.p (ld (v := .int .i64 i.imm) one_int (Rd.blk (i := 0) rfl rfl)) ?_
          refine Ol.p eqi ?_
          refine Ol.p mvb ?_
          refine Ol.gp q0 (mv rfl) ?_
          refine Ol.gs q0 (cl (v := .bool ((hasS i.op).contains 105)) en_ref03_in (fun M w' hh => ref03_in_ct (hasS_len _))) ?_
          refine Ol.gp q0 mvb ?_
          refine Ol.gp q1 (fdl fd_api_Ins_4) ?_
          refine Ol.gp q1 (ld (v := .int .i64 i.imm) one_int (Rd.blk (i := 0) rfl rfl)) ?_
          refine Ol.gp q1 gei ?_
          refine Ol.gp q0 (pkTb q1) ?_
          refine Ol.gp q0 mvb ?_
          refine Ol.gp q2 (fdl fd_api_Ins_4) ?_
          refine Ol.gp q2 (ld (v := .int .i64 i.imm) one_int (Rd.blk (i := 0) rfl rfl)) ?_
          refine Ol.gp q2 lei ?_
          refine Ol.gp q0 (pkTb q2) ?_
          refine Ol.p (pkFb q0) ?_
          refine Ol.p asb ?_
          refine Ol.nil ?_
          exact ⟨⟨rfl, rfl, congrArg Value.bool (by rw [e, q0, q1, q2]; try rfl), trivial⟩, rfl⟩
        | false =>
          refine Cd.region ?_
          refine Ol.p (fdl fd_api_Ins_4) ?_
          refine Ol.p (ld (v := .int .i64 i.imm) one_int (Rd.blk (i := 0) rfl rfl)) ?_
          refine Ol.p eqi ?_
          refine Ol.p mvb ?_
          refine Ol.gp q0 (mv rfl) ?_
          refine Ol.gs q0 (cl (v := .bool ((hasS i.op).contains 105)) en_ref03_in (fun M w' hh => ref03_in_ct (hasS_len _))) ?_
          refine Ol.gp q0 mvb ?_
          refine Ol.gp q1 (fdl fd_api_Ins_4) ?_
          refine Ol.gp q1 (ld (v := .int .i64 i.imm) one_int (Rd.blk (i := 0) rfl rfl)) ?_
          refine Ol.gp q1 gei ?_
          refine Ol.gp q0 (pkTb q1) ?_
          refine Ol.gp q0 mvb ?_
          refine Ol.gn q2 ?_
          refine Ol.gn q2 ?_
          refine Ol.gn q2 ?_
          refine Ol.gp q0 (pkFb q2) ?_
          refine Ol.p (pkFb q0) ?_
          refine Ol.p asb ?_
          refine Ol.nil ?_
          exact ⟨⟨rfl, rfl, congrArg Value.bool (by rw [e, q0, q1, q2]; try rfl), trivial⟩, rfl⟩
  rintro σ' _ ⟨hs', rfl⟩
  refine Cd.has hs' ?_
  clear hs'
  have e : refRest i = (partB (hasS i.op) 100 i.dst && (refImm i && (decide (i.callee = 0) && decide ((i.args.length : Int) = 0)))) := rfl
  refine Cd.seq ?_
  cases q0 : partB (hasS i.op) 100 i.dst with
  | true =>
    cases q1 : refImm i with
    | true =>
      cases q2 : decide (i.callee = 0) with
      | true =>
        refine Cd.region ?_
        refine Ol.p (mv rfl) ?_
        refine Ol.p (fdl fd_api_Ins_1) ?_
        refine Ol.p (ld (v := .int .i64 i.dst) one_int (Rd.blk (i := 0) rfl rfl)) ?_
        refine Ol.s (cl (v := .bool (partB (hasS i.op) 100 i.dst)) en_ref03_part (fun M w' hh => ref03_part_ct (hasS_len _))) ?_
        refine Ol.p mvb ?_
        refine Ol.gp q0 mvb ?_
        refine Ol.p (pkTb q0) ?_
        refine Ol.p mvb ?_
        refine Ol.gp rfl (fdl fd_api_Ins_5) ?_
        refine Ol.gp rfl (ld (v := .int .i64 i.callee) one_int (Rd.blk (i := 0) rfl rfl)) ?_
        refine Ol.gp rfl eqi ?_
        refine Ol.p (pkTb rfl) ?_
        refine Ol.p mvb ?_
        refine Ol.gp q2 (fdl fd_api_Ins_6) ?_
        refine Ol.gp q2 (ld (v := .slice i.aA i.args.length i.aC) one_L_int (Rd.blk (i := 0) rfl rfl)) ?_
        refine Ol.gp q2 (lens sl_L_int) ?_
        refine Ol.gp q2 eqi ?_
        refine Ol.p (pkTb q2) ?_
        refine Ol.p asb ?_
        refine Ol.nil ?_
        refine Cd.ret ⟨.bool _, ret1 rfl rfl, [], Keep.nil, congrArg Value.bool ?_, rfl⟩
        rw [hE, e, q0, q1, q2]; try rfl
      | false =>
        refine Cd.region ?_
        refine Ol.p (mv rfl) ?_
        refine Ol.p (fdl fd_api_Ins_1) ?_
        refine Ol.p (ld (v := .int .i64 i.dst) one_int (Rd.blk (i := 0) rfl rfl)) ?_
        refine Ol.s (cl (v := .bool (partB (hasS i.op) 100 i.dst)) en_ref03_part (fun M w' hh => ref03_part_ct (hasS_len _))) ?_
        refine Ol.p mvb ?_
        refine Ol.gp q0 mvb ?_
        refine Ol.p (pkTb q0) ?_
        refine Ol.p mvb ?_
        refine Ol.gp rfl (fdl fd_api_Ins_5) ?_
        refine Ol.gp rfl (ld (v := .int .i64 i.callee) one_int (Rd.blk (i := 0) rfl rfl)) ?_
        refine Ol.gp rfl eqi ?_
        refine Ol.p (pkTb rfl) ?_
        refine Ol.p mvb ?_
        refine Ol.gn q2 ?_
        refine Ol.gn q2 ?_
        refine Ol.gn q2 ?_
        refine Ol.gn q2 ?_
        refine Ol.p (pkFb q2) ?_
        refine Ol.p asb ?_
        refine Ol.nil ?_
        refine Cd.ret ⟨.bool _, ret1 rfl rfl, [], Keep.nil, congrArg Value.bool ?_, rfl⟩
        rw [hE, e, q0, q1, q2]; try rfl
    | false =>
      refine Cd.region ?_
      refine Ol.p (mv rfl) ?_
      refine Ol.p (fdl fd_api_Ins_1) ?_
      refine Ol.p (ld (v := .int .i64 i.dst) one_int (Rd.blk (i := 0) rfl rfl)) ?_
      refine Ol.s (cl (v := .bool (partB (hasS i.op) 100 i.dst)) en_ref03_part (fun M w' hh => ref03_part_ct (hasS_len _))) ?_
      refine Ol.p mvb ?_
      refine Ol.gp q0 mvb ?_
      refine Ol.p (pkTb q0) ?_
      refine Ol.p mvb ?_
      refine Ol.gn rfl ?_
      refine Ol.gn rfl ?_
      refine Ol.gn rfl ?_
      refine Ol.p (pkFb rfl) ?_
      refine Ol.p mvb ?_
      refine Ol.gn rfl ?_
      refine Ol.gn rfl ?_
      refine Ol.gn rfl ?_
      refine Ol.gn rfl ?_
      refine Ol.p (pkFb rfl) ?_
      refine Ol.p asb ?_
      refine Ol.nil ?_
      refine Cd.ret ⟨.bool _, ret1 rfl rfl, [], Keep.nil, congrArg Value.bool ?_, rfl⟩
      rw [hE, e, q0, q1]; try rfl
  | false =>
    refine Cd.region ?_
    refine Ol.p (mv rfl) ?_
    refine Ol.p (fdl fd_api_Ins_1) ?_
    refine Ol.p (ld (v := .int .i64 i.dst) one_int (Rd.blk (i := 0) rfl rfl)) ?_
    refine Ol.s (cl (v := .bool (partB (hasS i.op) 100 i.dst)) en_ref03_part (fun M w' hh => ref03_part_ct (hasS_len _))) ?_
    refine Ol.p mvb ?_
    refine Ol.gn q0 ?_
    refine Ol.p (pkFb q0) ?_
    refine Ol.p mvb ?_
    refine Ol.gn rfl ?_
    refine Ol.gn rfl ?_
    refine Ol.gn rfl ?_
    refine Ol.p (pkFb rfl) ?_
    refine Ol.p mvb ?_
    refine Ol.gn rfl ?_
    refine Ol.gn rfl ?_
    refine Ol.gn rfl ?_
    refine Ol.gn rfl ?_
    refine Ol.p (pkFb rfl) ?_
    refine Ol.p asb ?_
    refine Ol.nil ?_
    refine Cd.ret ⟨.bool _, ret1 rfl rfl, [], Keep.nil, congrArg Value.bool ?_, rfl⟩
    rw [hE, e, q0]; try rfl
theorem readsL_ref {i : RIns} (h : isIns i = true) : readsL i = (bif (hasS i.op).contains 97 then [i.a] else []) ++ ((bif (hasS i.op).contains 98 then [i.b] else []) ++ i.args) := by
  have hE := isIns_ref i
  rw [h] at hE
  cases hB : refB2 i with
  | true => rw [hB] at hE; cases hE
  | false =>
    unfold refB2 at hB
    simp only [Bool.or_eq_false_iff, Bool.not_eq_false'] at hB
    obtain ⟨_, _, ha, hb⟩ := hB
    have key : ∀ (c : UInt8) (n : Int), partB (hasS i.op) c n = true → [n].filter (fun n => !decide (n = 0)) = bif (hasS i.op).contains c then [n] else [] := fun c n hp => by
      unfold partB at hp
      cases hcc : (hasS i.op).contains c with
      | true =>
        rw [hcc, cond_true, varB_iff] at hp
        have : ¬ n = 0 := by omega
        simp [this]
      | false =>
        rw [hcc, cond_false] at hp
        have := of_decide_eq_true hp
        simp [this]
    unfold readsL
    rw [h, cond_true, ← key 97 i.a ha, ← key 98 i.b hb, ← List.append_assoc, ← List.filter_append]
    rfl
set_option maxHeartbeats 1000000 in
theorem ref03_Reads_ct {w : World} {i : RIns} (hia : Reads w w.heap.size 1 i.aA i.args.length (ints i.args)) (hal : i.args.length < 2 ^ 60) : Ct Tryz.prog 38 #[i.val] w (NewL 3 1 (readsL i).length (ints (readsL i))) := by
  refine Ct.mk Tryz.func38 rfl rfl ?_
  refine Cd.seq ?_
  refine Cd.region ?_
  refine Ol.x bxg ?_
  rintro _ _ ⟨g1, rfl, rfl⟩
  refine Ol.p ass ?_
  refine Ol.nil ?_
  refine Cd.seq ?_
  refine Cd.seq ?_
  refine Cd.region ?_
  refine Ol.p (ldw (cs := i.cells.toArray) ag_api_Ins (i := 0) rfl rfl) ?_
  refine Ol.s (cl (v := .bool (isIns i)) en_ref03_IsIns (fun M w' hh => ref03_IsIns_ct (hia.now hh) hal)) ?_
  refine Ol.p noti ?_
  refine Ol.nil ?_
  refine Cd.cond rfl (fun h => ?_) (fun h => ?_)   -- $6
  · have h0 : isIns i = false := by simpa using h
    have e : readsL i = [] := by unfold readsL; rw [h0]; rfl
    rw [e]
    refine Cd.seq ?_
    refine Cd.region ?_
    refine Ol.p ass ?_
    refine Ol.nil ?_
    refine Cd.nr 3 1 ?_
    exact Cd.ret ⟨.slice none 0 0, ret1 rfl rfl, _, .sub (.cons_cons _ (.cons _ .slnil)), none, 0, rfl, rfl⟩
  have h0 : isIns i = true := by simpa using h
  have h8 : i.args.length ≤ 8 := (isIns_parts h0).2.2.2.2
  have hR := readsL_ref h0
  obtain ⟨la, hla⟩ : ∃ la, la = bif (hasS i.op).contains 97 then [i.a] else [] := ⟨_, rfl⟩
  obtain ⟨lb, hlb⟩ : ∃ lb, lb = bif (hasS i.op).contains 98 then [i.b] else [] := ⟨_, rfl⟩
  rw [← hla, ← hlb] at hR
  refine Cd.skip ?_
  refine Cd.seq ?_
  refine Cd.region ?_
  refine Ol.p ass ?_
  refine Ol.nil ?_
  refine Cd.nr 3 1 ?_
  refine Cd.mid (fun σ' L' => ∃ A c, Has σ' [(1, .pointer (some ⟨g1, 0, none⟩)), (3, .slice A la.length c)] ∧ [row (.slice A la.length c) 3 1 la.length (ints la), blk g1 (.cells i.cells.toArray 25)] = L') ?_ ?_
  · refine Cd.seq ?_
    refine Cd.region ?_
    refine Ol.p (fdl fd_api_Ins_0) ?_
    refine Ol.p (ld (v := .int .i64 i.op) one_api_Op (Rd.blk (i := 1) rfl rfl)) ?_
    refine Ol.s (cl (v := .string (strB (hasS i.op))) en_ref03_has (fun M w' hh => ref03_has_ct)) ?_
    refine Ol.s (cl (v := .bool ((hasS i.op).contains 97)) en_ref03_in (fun M w' hh => ref03_in_ct (hasS_len _))) ?_
    refine Ol.nil ?_
    refine Cd.cond rfl (fun h => ?_) (fun h => ?_)   -- $10
    · rw [h, cond_true] at hla
      subst hla
      refine Cd.region ?_
      refine Ol.p mvs ?_
      refine Ol.p (fdl fd_api_Ins_2) ?_
      refine Ol.p (ld (v := .int .i64 i.a) one_int (Rd.blk (i := 1) rfl rfl)) ?_
      refine Ol.x (bsv [.int .i64 i.a] sl_L_int zr_int (by simp [Value.cells])) ?_
      rintro _ _ ⟨g14, rfl, rfl⟩
      refine Ol.x (apn (i := 1) (n := 0) (m := 1) (xs := []) sl_L_int zr_int rfl (by decide) rfl (Src.row (i := 0) rfl rfl) (by intro u hu; simp at hu; subst hu; rfl) (by decide) (by decide)) ?_
      rintro _ _ ⟨A', c', rfl, rfl⟩
      refine Ol.p ass ?_
      refine Ol.keep (.sub (.cons _ (List.Sublist.refl _))) ?_
      refine Ol.nil ?_
      exact ⟨A', c', ⟨rfl, rfl, trivial⟩, rfl⟩
    rw [h, cond_false] at hla
    subst hla
    refine Cd.skip ?_
    exact ⟨none, 0, ⟨rfl, rfl, trivial⟩, rfl⟩
  rintro σ' _ ⟨A, c, hs', rfl⟩
  refine Cd.has hs' ?_
  clear hs'
  have hla1 : la.length ≤ 1 := by
    rw [hla]
    cases (hasS i.op).contains 97 <;> simp
  have hlb1 : lb.length ≤ 1 := by
    rw [hlb]
    cases (hasS i.op).contains 98 <;> simp
  refine Cd.mid (fun σ' L' => ∃ A c, Has σ' [(1, .pointer (some ⟨g1, 0, none⟩)), (3, .slice A (la ++ lb).length c)] ∧ [row (.slice A (la ++ lb).length c) 3 1 (la ++ lb).length (ints (la ++ lb)), blk g1 (.cells i.cells.toArray 25)] = L') ?_ ?_
  · refine Cd.seq ?_
    refine Cd.region ?_
    refine Ol.p (fdl fd_api_Ins_0) ?_
    refine Ol.p (ld (v := .int .i64 i.op) one_api_Op (Rd.blk (i := 1) rfl rfl)) ?_
    refine Ol.s (cl (v := .string (strB (hasS i.op))) en_ref03_has (fun M w' hh => ref03_has_ct)) ?_
    refine Ol.s (cl (v := .bool ((hasS i.op).contains 98)) en_ref03_in (fun M w' hh => ref03_in_ct (hasS_len _))) ?_
    refine Ol.nil ?_
    refine Cd.cond rfl (fun h => ?_) (fun h => ?_)   -- $19
    · rw [h, cond_true] at hlb
      subst hlb
      have e1 : (la ++ [i.b]).length = la.length + 1 := by simp
      have e2 : ints (la ++ [i.b]) = ints la ++ [.int .i64 i.b] := by simp [ints]
      rw [e1, e2]
      refine Cd.region ?_
      refine Ol.p mvs ?_
      refine Ol.p (fdl fd_api_Ins_3) ?_
      refine Ol.p (ld (v := .int .i64 i.b) one_int (Rd.blk (i := 1) rfl rfl)) ?_
      refine Ol.x (bsv [.int .i64 i.b] sl_L_int zr_int (by simp [Value.cells])) ?_
      rintro _ _ ⟨g23, rfl, rfl⟩
      refine Ol.x (apn (i := 1) (m := 1) sl_L_int zr_int rfl (by decide) rfl (Src.row (i := 0) rfl rfl) (by intro u hu; simp at hu; subst hu; rfl) (by unfold maxLen; omega) (by omega)) ?_
      rintro _ _ ⟨A', c', rfl, rfl⟩
      refine Ol.p ass ?_
      refine Ol.keep (.sub (.cons _ (List.Sublist.refl _))) ?_
      refine Ol.nil ?_
      exact ⟨A', c', ⟨rfl, rfl, trivial⟩, rfl⟩
    rw [h, cond_false] at hlb
    subst hlb
    rw [List.append_nil]
    refine Cd.skip ?_
    exact ⟨A, c, ⟨rfl, rfl, trivial⟩, rfl⟩
  rintro σ' _ ⟨A2, c2, hs', rfl⟩
  refine Cd.has hs' ?_
  clear hs'
  have hl2 : (la ++ lb).length ≤ 2 := by rw [List.length_append]; omega
  have e1 : (readsL i).length = (la ++ lb).length + i.args.length := by rw [hR, ← List.append_assoc, List.length_append]
  have e2 : ints (readsL i) = ints (la ++ lb) ++ ints i.args := by rw [hR, ← List.append_assoc]; simp [ints]
  rw [e1, e2]
  refine Cd.seq ?_
  refine Cd.region ?_
  refine Ol.p mvs ?_
  refine Ol.p (fdl fd_api_Ins_6) ?_
  refine Ol.p (ld (v := .slice i.aA i.args.length i.aC) one_L_int (Rd.blk (i := 1) rfl rfl)) ?_
  refine Ol.x (apn (i := 0) sl_L_int zr_int rfl (by decide) rfl (Src.slc hia) (ints_one _) (by unfold maxLen; omega) (by omega)) ?_
  rintro _ _ ⟨A', c', rfl, rfl⟩
  refine Ol.p ass ?_
  refine Ol.nil ?_
  exact Cd.ret ⟨.slice _ _ _, ret1 rfl rfl, _, .sub (.cons_cons _ (.cons _ .slnil)), _, _, rfl, rfl⟩
theorem ref03_Defines_ct {w : World} {i : RIns} (hia : Reads w w.heap.size 1 i.aA i.args.length (ints i.args)) (hal : i.args.length < 2 ^ 60) : Ct Tryz.prog 40 #[i.val] w (Is (.int .i64 (defI i))) := by
  refine Ct.mk Tryz.func40 rfl rfl ?_
  refine Cd.seq ?_
  refine Cd.region ?_
  refine Ol.x bxg ?_
  rintro _ _ ⟨g1, rfl, rfl⟩
  refine Ol.p asi ?_
  refine Ol.nil ?_
  refine Cd.seq ?_
  refine Cd.seq ?_
  refine Cd.region ?_
  refine Ol.p (ldw (cs := i.cells.toArray) ag_api_Ins (i := 0) rfl rfl) ?_
  refine Ol.s (cl (v := .bool (isIns i)) en_ref03_IsIns (fun M w' hh => ref03_IsIns_ct (hia.now hh) hal)) ?_
  refine Ol.p noti ?_
  refine Ol.nil ?_
  refine Cd.cond rfl (fun h => ?_) (fun h => ?_)   -- $5
  · have h0 : isIns i = false := by simpa using h
    have e : defI i = 0 := by unfold defI; rw [h0]; rfl
    refine Cd.seq ?_
    refine Cd.region ?_
    refine Ol.p asi ?_
    refine Ol.nil ?_
    exact Cd.ret ⟨.int .i64 0, ret1 rfl rfl, [], Keep.nil, by rw [e], rfl⟩
  have h0 : isIns i = true := by simpa using h
  have e : defI i = i.dst := by unfold defI; rw [h0]; rfl
  refine Cd.skip ?_
  refine Cd.seq ?_
  refine Cd.region ?_
  refine Ol.p (fdl fd_api_Ins_1) ?_
  refine Ol.p (ld (v := .int .i64 i.dst) one_int (Rd.blk (i := 0) rfl rfl)) ?_
  refine Ol.p asi ?_
  refine Ol.nil ?_
  exact Cd.ret ⟨.int .i64 i.dst, ret1 rfl rfl, [], Keep.nil, by rw [e], rfl⟩
end
end Go.Proofs.YtcojedoejpcolaaGreat

/- A slice that starts somewhere in a block of one's own, and grows at its end: append. Over any program. -/
namespace Go.Proofs.YtcojedoejpcolaaGreat
set_option linter.unusedVariables false
open Go Go.RowKit

def Queue (i e n : Nat) (xs : List Value) (L : List Res) : Value → List Res → Prop := fun v L' => ∃ g off c cs, v = .slice (some ⟨g, off, none⟩) n c ∧ L' = L.set i (blk g (.cells cs e)) ∧ off + c ≤ cs.size ∧ n ≤ c ∧ ∀ j u, xs[j]? = some u → cs[off + j]? = some u
section
variable {P : Program} {w0 : World} {B : Nat} {σ : Env} {L : List Res} {d : Option Nat} {ty T : TypeId} {pos : String} {af : Array Edge} {gd : Option (Nat × Bool)} {x y : Operand}
theorem apq {i g off n c b m c2 e : Nat} {A2 : Option Addr} {cs : Array Value} {xs ys : List Value} {zv : Value} (hT : SlT P T e 1 b) (hz : ZrT P e zv) (hzs : zv.cells.size = 1) (hi : L[i]? = some (blk g (.cells cs e))) (hsz : off + c ≤ cs.size) (hnc : n ≤ c) (hxl : xs.length = n)
    (hold : ∀ j u, xs[j]? = some u → cs[off + j]? = some u) (hsrc : Src w0 B L A2 m 1 ys) (h1 : ∀ u ∈ ys, u.oneCell' = true) (hml : n + m ≤ maxLen) (hby : (n + m) * b ≤ 140737488355328) (hx : ev σ x = .slice (some ⟨g, off, none⟩) n c := by exact rfl) (hy : ev σ y = .slice A2 m c2 := by exact rfl) :
    Sp P w0 B ⟨d, .call { callee := .builtin .append, args := #[x, y], argTypes := #[T, T] }, ty, pos, af, gd⟩ σ L (Queue i e (n + m) (xs ++ ys) L) := fun M w hh => by
  obtain ⟨inf, hi1, he⟩ := info_of hT.2
  simp only [Prod.mk.injEq] at he
  obtain ⟨i2, hi2, hz2⟩ := info_of hz
  rw [hi1] at hi2
  cases hi2
  have hg : w.heap[g]? = some (.cells cs e (0, 0)) := hh.at_ hi
  have hyl : ys.length = m := by have := hsrc.1; omega
  have key : ∃ v' w', (Builtin.append_ #[T, T] ty #[.slice (some ⟨g, off, none⟩) n c, .slice A2 m c2]).run P w = .ok v' w' ∧ Stp (fun k => k = g) w w' ∧ ∃ g' off' c' cs', v' = .slice (some ⟨g', off', none⟩) (n + m) c' ∧ w'.heap[g']? = some (.cells cs' e (0, 0)) ∧ (g' = g ∨ (w.heap.size ≤ g' ∧ g' < w'.heap.size)) ∧ off' + c' ≤ cs'.size ∧ n + m ≤ c' ∧ ∀ j u, (xs ++ ys)[j]? = some u → cs'[off' + j]? = some u := by
    rcases hsrc.2 M w hh with ⟨rfl, rfl⟩ | ⟨a, rfl, hc⟩
    · have hy0 : ys = [] := List.eq_nil_of_length_eq_zero hyl
      subst hy0
      refine ⟨.slice (some ⟨g, off, none⟩) n c, w, ?_, Stp.refl _ _, g, off, c, cs, rfl, hg, .inl rfl, hsz, hnc, by simpa using hold⟩
      simp [Builtin.append_, run_underlying hT.1, sizeOf, typeInfo, hi1, Builtin.lenOf, Builtin.firstCells, hnc, storeCells]
    · by_cases hroom : n + m ≤ c
      · have hfc := run_firstCells_some (P := P) w inf.size m a m c2 ys (by rw [he.1]; exact hsrc.1) hc
        obtain ⟨w', hst, hstp, hg'⟩ := run_storeCells_all (P := P) (g := g) (e := e) ys (off + n * inf.size) 0 cs w hg (by rw [he.1]; omega) h1
        simp only [Nat.add_zero] at hst hg'
        refine ⟨.slice (some ⟨g, off, none⟩) (n + m) c, w', ?_, hstp, g, off, c, _, rfl, hg', .inl rfl, ?_, hroom, ?_⟩
        · simp [Builtin.append_, run_underlying hT.1, sizeOf, typeInfo, hi1, Builtin.lenOf, hroom, hfc, Addr.add_lit, hst]
        · simp only [List.size_toArray, List.length_append, List.length_take, List.length_drop, Array.length_toList, he.1]
          omega
        · intro j u hu
          simp only [he.1, Nat.mul_one, List.getElem?_toArray]
          have htl : (cs.toList.take (off + n)).length = off + n := by simp; omega
          rcases Nat.lt_or_ge j n with hj | hj
          · rw [List.getElem?_append_left (by omega)] at hu
            rw [List.append_assoc, List.getElem?_append_left (by omega), List.getElem?_take, if_pos (by omega), Array.getElem?_toList]
            exact hold j u hu
          · rw [List.getElem?_append_right (by omega)] at hu
            have hjl := (List.getElem?_eq_some_iff.1 hu).1
            rw [List.append_assoc, List.getElem?_append_right (by omega), htl, List.getElem?_append_left (by omega)]
            rw [show off + j - (off + n) = j - xs.length by omega]
            exact hu
      · have holds : ∀ j u, xs[j]? = some u → w.cell? ((⟨g, off, none⟩ : Addr).add j) = some u := fun j u hu => by
          rw [Addr.add_lit, cell_of_row w g (off + j) cs e (0, 0) hg]
          exact hold j u hu
        obtain ⟨v', w', hr, hown, hgr⟩ := run_append_arg_grows (P := P) w T ty e inf zv 1 b hT.1 hi1 hz2 he.1 he.2 hzs (by decide) ⟨g, off, none⟩ n c xs (by omega) holds a m c2 ys hsrc.1 hc (by omega) hml hby
        rcases hown.2 with ⟨rfl, h0⟩ | ⟨g', cap, cur, rfl, hb', hg', hnc', _, hcs, htake⟩
        · omega
        · refine ⟨_, w', hr, (Stp.of_grown hgr).mono (fun k _ hk => by cases hk), g', 0, cap, cur, rfl, hg', .inr ⟨hb', ?_⟩, by omega, hnc', ?_⟩
          · exact (Array.getElem?_eq_some_iff.1 hg').1
          · intro j u hu
            have hj := (List.getElem?_eq_some_iff.1 hu).1
            have : (cur.toList.take ((n + m) * 1))[j]? = some u := by rw [htake]; exact hu
            rw [List.getElem?_take] at this
            split at this
            · rw [Nat.zero_add]; simpa using this
            · cases this
  obtain ⟨v', w', hr, hstp, g', off', c', cs', rfl, hg', hgg, h2, h3, h4⟩ := key
  refine .inl ⟨_, w', ?_, _, hh.set (r' := blk g' (.cells cs' e)) hi hstp hg' (fun k hk => ?_), g', off', c', cs', rfl, rfl, h2, h3, h4⟩
  · simp [execOp, hx, hy, resolve, invoke, builtin, hr]
  · rcases hgg with e1 | e1
    · left
      have : k = g' := hk
      show k = g
      omega
    · right
      have : k = g' := hk
      omega
end
end Go.Proofs.YtcojedoejpcolaaGreat

/- append onto a slice in a block of one's own: in its room, or in a new block, the old one stays. Over any program. -/
namespace Go.Proofs.YtcojedoejpcolaaGreat
set_option linter.unusedVariables false
open Go Go.RowKit

def Keepq (i e g n m c : Nat) (cs : Array Value) (xs ys : List Value) (L : List Res) : Value → List Res → Prop := fun v L' =>
  (∃ cs' : Array Value, n + m ≤ c ∧ v = .slice (some ⟨g, 0, none⟩) (n + m) c ∧ L' = L.set i (blk g (.cells cs' e)) ∧ cs'.size = cs.size ∧ (∀ j : Nat, j < n → cs'[j]? = cs[j]?) ∧ (∀ (j : Nat) (u : Value), ys[j]? = some u → cs'[n + j]? = some u)) ∨
  (∃ A' c', v = .slice A' (n + m) c' ∧ L' = row (.slice A' (n + m) c') e 1 (n + m) (xs ++ ys) :: L)
section
variable {P : Program} {w0 : World} {B : Nat} {σ : Env} {L : List Res} {d : Option Nat} {ty T : TypeId} {pos : String} {af : Array Edge} {gd : Option (Nat × Bool)} {x y : Operand}
theorem apk {i g n c b m c2 e : Nat} {A2 : Option Addr} {cs : Array Value} {xs ys : List Value} {zv : Value} (hT : SlT P T e 1 b) (hz : ZrT P e zv) (hzs : zv.cells.size = 1) (hi : L[i]? = some (blk g (.cells cs e))) (hsz : c ≤ cs.size) (hnc : n ≤ c) (hxl : xs.length = n)
    (hold : ∀ (j : Nat) (u : Value), xs[j]? = some u → cs[j]? = some u) (hm : 0 < m) (hsrc : Src w0 B L A2 m 1 ys) (h1 : ∀ u ∈ ys, u.oneCell' = true) (hml : n + m ≤ maxLen) (hby : (n + m) * b ≤ 140737488355328) (hx : ev σ x = .slice (some ⟨g, 0, none⟩) n c := by exact rfl) (hy : ev σ y = .slice A2 m c2 := by exact rfl) :
    Sp P w0 B ⟨d, .call { callee := .builtin .append, args := #[x, y], argTypes := #[T, T] }, ty, pos, af, gd⟩ σ L (Keepq i e g n m c cs xs ys L) := fun M w hh => by
  obtain ⟨inf, hi1, he⟩ := info_of hT.2
  simp only [Prod.mk.injEq] at he
  obtain ⟨i2, hi2, hz2⟩ := info_of hz
  rw [hi1] at hi2
  cases hi2
  have hg : w.heap[g]? = some (.cells cs e (0, 0)) := hh.at_ hi
  have hyl : ys.length = m := by have := hsrc.1; omega
  rcases hsrc.2 M w hh with ⟨_, h0⟩ | ⟨a, rfl, hc⟩
  · omega
  · by_cases hroom : n + m ≤ c
    · have hfc := run_firstCells_some (P := P) w inf.size m a m c2 ys (by rw [he.1]; exact hsrc.1) hc
      obtain ⟨w', hst, hstp, hg'⟩ := run_storeCells_all (P := P) (g := g) (e := e) ys (n * inf.size) 0 cs w hg (by rw [he.1]; omega) h1
      simp only [Nat.add_zero] at hst hg'
      have hrun : (Builtin.append_ #[T, T] ty #[.slice (some ⟨g, 0, none⟩) n c, .slice (some a) m c2]).run P w = .ok (.slice (some ⟨g, 0, none⟩) (n + m) c) w' := by
        simp [Builtin.append_, run_underlying hT.1, sizeOf, typeInfo, hi1, Builtin.lenOf, hroom, hfc, Addr.add_lit, hst]
      refine .inl ⟨_, w', ?_, _, hh.set (r' := blk g (.cells _ e)) hi hstp hg' (fun k hk => .inl hk), .inl ⟨_, hroom, rfl, rfl, ?_, ?_, ?_⟩⟩
      · simp [execOp, hx, hy, resolve, invoke, builtin, hrun]
      · simp only [List.size_toArray, List.length_append, List.length_take, List.length_drop, Array.length_toList, he.1]
        omega
      · intro j hj
        simp only [he.1, Nat.mul_one, List.getElem?_toArray]
        have htl : (cs.toList.take n).length = n := by simp; omega
        rw [List.append_assoc, List.getElem?_append_left (by omega), List.getElem?_take, if_pos hj, Array.getElem?_toList]
      · intro j u hu
        simp only [he.1, Nat.mul_one, List.getElem?_toArray]
        have htl : (cs.toList.take n).length = n := by simp; omega
        have hjl := (List.getElem?_eq_some_iff.1 hu).1
        rw [List.append_assoc, List.getElem?_append_right (by omega), htl, List.getElem?_append_left (by omega), Nat.add_sub_cancel_left]
        exact hu
    · have holds : ∀ j u, xs[j]? = some u → w.cell? ((⟨g, 0, none⟩ : Addr).add j) = some u := fun j u hu => by
        rw [Addr.add_lit, cell_of_row w g (0 + j) cs e (0, 0) hg, Nat.zero_add]
        exact hold j u hu
      obtain ⟨v', w', hr, hown, hgr⟩ := run_append_arg_grows (P := P) w T ty e inf zv 1 b hT.1 hi1 hz2 he.1 he.2 hzs (by decide) ⟨g, 0, none⟩ n c xs (by omega) holds a m c2 ys hsrc.1 hc (by omega) hml hby
      have hstp : Stp nil_ w w' := (Stp.of_grown hgr).mono (fun k _ hk => by cases hk)
      rcases hown.2 with ⟨rfl, h0⟩ | ⟨g', cap, cur, rfl, hb', hg', hnc', hcm, hcs, htake⟩
      · omega
      · refine .inl ⟨_, w', ?_, _, hh.add (T := [row (.slice (some ⟨g', 0, none⟩) (n + m) cap) e 1 (n + m) (xs ++ ys)]) hstp ?_ ?_ (by simp), .inr ⟨_, _, rfl, rfl⟩⟩
        · simp [execOp, hx, hy, resolve, invoke, builtin, hr]
        · intro r hr'
          simp only [List.mem_singleton] at hr'
          subst hr'
          exact ⟨hown.1, .inr ⟨g', cap, cur, rfl, Nat.zero_le _, hg', hnc', hcm, hcs, htake⟩⟩
        · intro r hr' k hk
          simp only [List.mem_singleton] at hr'
          subst hr'
          have h1 : g' = k := by simpa [row, Value.ownBlock] using hk
          have h2 := (Array.getElem?_eq_some_iff.1 hg').1
          exact ⟨by omega, by omega⟩
end
end Go.Proofs.YtcojedoejpcolaaGreat

/- Lists of resources told apart by counting. -/
namespace Go.Proofs.YtcojedoejpcolaaGreat
theorem perm_count {α : Type} {l l' : List α} (h : ∀ (_ : DecidableEq α) (x : α), l.count x = l'.count x) : l.Perm l' := by
  haveI : DecidableEq α := fun a b => Classical.propDecidable (a = b)
  exact List.perm_iff_count.2 fun x => h _ x
theorem keep_count {L L' : List Res} (D : List Res) (h : ∀ (_ : DecidableEq Res) (x : Res), L.count x = (L' ++ D).count x) : Keep L L' := ⟨D, perm_count h⟩
end Go.Proofs.YtcojedoejpcolaaGreat

/- The package flow: edges of blocks, the critical ones, walked. -/
namespace Go.Proofs.YtcojedoejpcolaaGreat
set_option linter.unusedVariables false
open Go Go.RowKit
set_option maxRecDepth 100000

/-- A cell of a block of one's own, in whatever is called later. -/
theorem Hp.keeps {w0 w w2 : World} {B i g k : Nat} {M L : List Res} {cs : Array Value} {e : TypeId} {fz : Nat × Nat} {v : Value} (hh : Hp w0 B (M ++ L) w) (hi : L[i]? = some (blk g (.cells cs e fz))) (hk : cs[k]? = some v) (hb : Below w.heap.size w w2) : w2.cell? ⟨g, k, none⟩ = some v := by
  have h1 := Rd.blk hi hk M w hh
  have hlt : g < w.heap.size := World.block_lt_of_cell? w _ h1
  exact (hb.cell (p := ⟨g, k, none⟩) hlt).trans h1
theorem Hp.keepsObj {w0 w w2 : World} {B i g : Nat} {M L : List Res} {o : Obj} (hh : Hp w0 B (M ++ L) w) (hi : L[i]? = some (blk g o)) (hb : Below w.heap.size w w2) : w2.heap[g]? = some o ∧ g < w2.heap.size := by
  have h1 : w.heap[g]? = some o := hh.at_ hi
  have hlt := (Array.getElem?_eq_some_iff.1 h1).1
  exact ⟨(hb.block g hlt).trans h1, Nat.lt_of_lt_of_le hlt hb.size⟩

/-- How often a number stands among some. -/
def cnt (l : List Int) (n : Int) : Nat := l.count n
/-- Is an edge critical: one of more out of its block, one of more into its block? -/
def critE (ts : List Tm) (e : Ed) : Bool := decide (1 < cnt ((edges ts).map Ed.to) e.to) && decide (1 < cnt ((edges ts).map Ed.src) e.src)
/-- A map that counts. -/
def Cnts (es : List MapEntry) (l : List Int) : Prop := AllI es ∧ ∀ n, (mget es n).getD (.int .i64 0) = .int .i64 (cnt l n : Int)
theorem Cnts.nil : Cnts [] [] := ⟨fun e h => (by cases h), fun n => by simp [mget, cnt]⟩
theorem Cnts.snoc {es es' : List MapEntry} {l : List Int} {k : Int} (h : Cnts es l) (ha : AllI es') (hm : ∀ m, mget es' m = if m = k then some (.int .i64 ((cnt l k : Int) + 1)) else mget es m) : Cnts es' (l ++ [k]) := ⟨ha, fun n => by
  rw [hm n]
  by_cases hn : n = k
  · subst hn
    simp [cnt]
  · rw [if_neg hn, h.2 n]
    have : ¬ k = n := fun e => hn e.symm
    simp [cnt, List.count_append, this]⟩
end Go.Proofs.YtcojedoejpcolaaGreat

/- The package flow: what is reached, walked. -/
namespace Go.Proofs.YtcojedoejpcolaaGreat
set_option linter.unusedVariables false
open Go Go.RowKit
set_option maxRecDepth 100000

theorem enc_ne {s t : Nat} (hs : Sm s) (ht : Sm t) : decide (s = t) = true ↔ enc s = enc t := enc_iff hs ht
theorem intsN_get {l : List Nat} {k n : Nat} (h : l[k]? = some n) : (intsN l)[k]? = some (.int .i64 (n : Int)) := by simp [intsN, h]
theorem toAt_i64 {f : RFun} (hfit : Fit f) {b : RBlk} (hb : b ∈ f.blocks) : ∀ n ∈ toL b.term, I64 n := fun n hn => by
  unfold I64
  rcases toL_mem hn with e | e
  · exact hfit.term b hb _ (by simp [e])
  · exact hfit.term b hb _ (by simp [e])
end Go.Proofs.YtcojedoejpcolaaGreat

/- The package flow: the order of blocks, walked. -/
namespace Go.Proofs.YtcojedoejpcolaaGreat
set_option linter.unusedVariables false
open Go Go.RowKit
set_option maxRecDepth 100000

theorem foldl_snoc {α β : Type} {f : β → α → β} {l : List α} {k : Nat} {x : α} {a : β} (h : l[k]? = some x) : (l.take (k + 1)).foldl f a = f ((l.take k).foldl f a) x := by
  rw [take_snoc_ h, List.foldl_append]; rfl
end Go.Proofs.YtcojedoejpcolaaGreat

/- Structs of numbers, compared. -/
namespace Go.Proofs.YtcojedoejpcolaaGreat
set_option linter.unusedVariables false
open Go Go.RowKit
section
variable {P : Program} {w0 : World} {B : Nat} {σ : Env} {L : List Res} {d : Option Nat} {ty T : TypeId} {pos : String} {af : Array Edge} {gd : Option (Nat × Bool)} {x y z : Operand} {v : Value}
theorem run_eqFields_prim {xs ys : Array Value} {dd : Nat} (w : World) : ∀ fs : List Field, (∀ f ∈ fs, f.name ≠ "_" ∧ ∃ kd a b, primT P f.type kd ∧ xs[f.offset]? = some a ∧ ys[f.offset]? = some b ∧ Tell kd a b) → ∀ r : Bool, (r = true ↔ ∀ f ∈ fs, xs[f.offset]? = ys[f.offset]?) → (Op.eqFields (dd + 1) xs ys fs).run P w = .ok r w
  | [], _, r, hr => by
    have : r = true := hr.2 (by simp)
    simp [Op.eqFields, this]
  | f :: fs, h, r, hr => by
    obtain ⟨hn, kd, a, b, he, ha, hb, q, hs, hq⟩ := h f (by simp)
    have h1 := run_eq_prim (dd := dd) he.1 hs w
    have p1 : (part f.type xs f.offset).run P w = .ok a w := run_part_one he.one ha w
    have p2 : (part f.type ys f.offset).run P w = .ok b w := run_part_one he.one hb w
    simp only [Op.eqFields, hn, ne_eq, not_false_eq_true, if_true, Sem.run_bind, p1, p2, h1, Result.andThen_ok]
    cases q with
    | true =>
      have hab : a = b := hq.1 rfl
      have ih := run_eqFields_prim (dd := dd) w fs (fun j hj => h j (by simp [hj])) r (by
        rw [hr]
        simp [ha, hb, hab])
      simpa using ih
    | false =>
      have hab : a ≠ b := fun e => by have := hq.2 e; cases this
      have : r = false := by
        cases r with
        | false => rfl
        | true =>
          have := hr.1 rfl f (by simp)
          rw [ha, hb] at this
          exact absurd (Option.some.inj this) hab
      simp [this]
/-- A struct of n numbers. -/
def stI (P : Program) (T n : Nat) : Bool := match P.underlying T with
  | some (.struct fs) => fs.toList.all (fun f => (f.name != "_") && ((match P.underlying f.type with | some (.int _) => true | _ => false) && decide ((P.info? f.type).map (·.size) = some 1))) && decide (fs.toList.map (·.offset) = List.range n) && !P.stoodInHeld T && !P.eqGuardType P.depth T
  | _ => false
theorem run_equal_ints {n : Nat} {a b : List Int} (hT : stI P T n = true) (ha : a.length = n) (hb : b.length = n) (w : World) : (Op.equal T (.agg (ints a).toArray) (.agg (ints b).toArray)).run P w = .ok (decide (a = b)) w ∧ P.eqGuardType P.depth T = false := by
  unfold stI at hT
  split at hT
  · rename_i fs hu
    simp only [Bool.and_eq_true, List.all_eq_true, Bool.not_eq_true', decide_eq_true_eq] at hT
    obtain ⟨⟨⟨h1, h2⟩, h3⟩, h4⟩ := hT
    refine ⟨?_, h4⟩
    have hf : P.fieldsOf T = fs := by simp [Program.fieldsOf, hu]
    have := run_equalIn_struct (P := P) w 9999 T (ints a).toArray (ints b).toArray (by rw [hf]; exact hu) h3
    have e : (Op.equal T (.agg (ints a).toArray) (.agg (ints b).toArray)).run P w = (Op.equalIn (9999 + 1) T (.agg (ints a).toArray) (.agg (ints b).toArray)).run P w := rfl
    rw [e, this, hf]
    have hoff : ∀ f ∈ fs.toList, f.offset < n := fun f hf => by
      have : f.offset ∈ fs.toList.map (·.offset) := List.mem_map.2 ⟨f, hf, rfl⟩
      rw [h2] at this
      simpa using this
    have hall : ∀ i, i < n → ∃ f ∈ fs.toList, f.offset = i := fun i hi => by
      have : i ∈ fs.toList.map (·.offset) := by rw [h2]; simpa using hi
      simpa using this
    have hget : ∀ (l : List Int) (i : Nat) (hi : i < l.length), ((ints l).toArray)[i]? = some (.int .i64 l[i]) := fun l i hi => by simp [ints, hi]
    apply run_eqFields_prim (dd := 9998)
    · intro f hf
      obtain ⟨h5, h6, h7⟩ := h1 f hf
      refine ⟨by simpa using h5, ?_⟩
      have ho := hoff f hf
      split at h6
      · rename_i k hk
        exact ⟨.int k, _, _, ⟨hk, rfl, h7⟩, hget a _ (by omega), hget b _ (by omega), Tell.int⟩
      · cases h6
    · rw [decide_eq_true_iff]
      constructor
      · rintro rfl f _; rfl
      · intro h
        apply List.ext_getElem (by omega)
        intro i hi hj
        obtain ⟨f, hf, rfl⟩ := hall i (by omega)
        have := h f hf
        rw [hget a _ hi, hget b _ hj] at this
        simpa using this
  · cases hT
theorem eqs {u : TypeId} {n : Nat} {a b : List Int} (hT : stI P T n = true) (ha : a.length = n) (hb : b.length = n) (hx : ev σ x = .agg (ints a).toArray := by exact rfl) (hy : ev σ y = .agg (ints b).toArray := by exact rfl) :
    Sd P w0 B ⟨d, .binOp .eql T x y u, ty, pos, af, gd⟩ σ L (.bool (decide (a = b))) := sp_val fun w => by
  obtain ⟨h1, h2⟩ := run_equal_ints hT ha hb w
  simp [execOp, hx, hy, binOp, eqGuard_agg h2, h1]
theorem nes {u : TypeId} {n : Nat} {a b : List Int} (hT : stI P T n = true) (ha : a.length = n) (hb : b.length = n) (hx : ev σ x = .agg (ints a).toArray := by exact rfl) (hy : ev σ y = .agg (ints b).toArray := by exact rfl) :
    Sd P w0 B ⟨d, .binOp .neq T x y u, ty, pos, af, gd⟩ σ L (.bool (!decide (a = b))) := sp_val fun w => by
  obtain ⟨h1, h2⟩ := run_equal_ints hT ha hb w
  simp [execOp, hx, hy, binOp, eqGuard_agg h2, h1]
end
theorem st_api_Edge : stI Tryz.prog 219 3 = true := by kernel_rfl
end Go.Proofs.YtcojedoejpcolaaGreat

/- The law 10: its small functions, walked. -/
namespace Go.Proofs.YtcojedoejpcolaaGreat
set_option linter.unusedVariables false
open Go Go.RowKit
set_option maxRecDepth 100000


section
theorem ints_eq_of {a b : List Int} (hl : a.length = b.length) (h : ∀ i x y, i < a.length → a[i]? = some x → b[i]? = some y → x = y) : a = b := by
  apply List.ext_getElem hl
  intro i h1 h2
  exact h i _ _ h1 (List.getElem?_eq_getElem h1) (List.getElem?_eq_getElem h2)
theorem kit_SameInts_ct {w : World} {A B : Option Addr} {c d : Nat} {a b : List Int} (ha : Reads w w.heap.size 1 A a.length (ints a)) (hb : Reads w w.heap.size 1 B b.length (ints b)) (hal : a.length < 2 ^ 62) (hbl : b.length < 2 ^ 62) :
    Ct Tryz.prog 37 #[.slice A a.length c, .slice B b.length d] w (Is (.bool (decide (a = b)))) := by
  refine Ct.mk Tryz.func37 rfl rfl ?_
  refine Cd.seq ?_
  refine Cd.region ?_
  refine Ol.p asb ?_
  refine Ol.nil ?_
  refine Cd.seq ?_
  refine Cd.seq ?_
  refine Cd.region ?_
  refine Ol.p mvs ?_
  refine Ol.p (lens sl_L_int) ?_
  refine Ol.p mvs ?_
  refine Ol.p (lens sl_L_int) ?_
  refine Ol.p nei ?_
  refine Ol.nil ?_
  refine Cd.cond rfl (fun h => ?_) (fun h => ?_)
  · refine Cd.seq ?_
    refine Cd.region ?_
    refine Ol.p asb ?_
    refine Ol.nil ?_
    refine Cd.ret ⟨_, ret1 rfl rfl, [], .nil, ?_, rfl⟩
    have hne : a ≠ b := fun e => by subst e; simp at h
    rw [decide_eq_false hne]; rfl
  have hll : a.length = b.length := by
    have : (a.length : Int) = b.length := by simpa using h
    omega
  refine Cd.skip ?_
  refine Cd.seq ?_
  refine Cd.seq ?_
  refine Cd.region ?_
  refine Ol.p asi ?_
  refine Ol.nil ?_
  refine Cd.block ?_
  refine Cd.loop (fun m σ L => ∃ k, m = a.length - k ∧ k ≤ a.length ∧ Has σ [(0, .slice A a.length c), (1, .slice B b.length d), (5, .int .i64 k)] ∧ L = [] ∧ ∀ i x y, i < k → a[i]? = some x → b[i]? = some y → x = y) (n := a.length) ⟨0, rfl, Nat.zero_le _, ⟨rfl, rfl, rfl, trivial⟩, rfl, fun i x y h => by omega⟩ ?_
  rintro _ σ L ⟨k, rfl, hk, hs, rfl, hyes⟩
  refine Cd.has hs ?_
  refine Cd.seq ?_
  refine Cd.seq ?_
  refine Cd.region ?_
  refine Ol.p mvi ?_
  refine Ol.p mvs ?_
  refine Ol.p (lens sl_L_int) ?_
  refine Ol.p lsi ?_
  refine Ol.nil ?_
  refine Cd.cond rfl (fun h => ?_) (fun h => ?_)
  · have hlt : k < a.length := by simpa using h
    have hlt2 : k < b.length := by omega
    refine Cd.skip ?_
    refine Cd.seq ?_
    refine Cd.block ?_
    refine Cd.seq ?_
    refine Cd.draw mixed 9 (fun _ => none) (fun _ => []) (by kernel_rfl) (fun _ _ h => by cases h) (fun u hu => ?_)
    refine Wk.p mvs ?_
    refine Wk.p mvi ?_
    refine Wk.p (ixn1 sl_L_int (Som.slc ha (by omega))) ?_
    refine Wk.p (ld one_int (Rd.slc ha (ints_get hlt))) ?_
    refine Wk.p mvs ?_
    refine Wk.p mvi ?_
    refine Wk.p (ixn1 sl_L_int (Som.slc hb (by omega))) ?_
    refine Wk.p (ld one_int (Rd.slc hb (ints_get hlt2))) ?_
    refine Wk.p nei ?_
    refine Wk.nil ?_
    refine Ol.nil ?_
    refine Cd.cond rfl (fun h2 => ?_) (fun h2 => ?_)
    · refine Cd.seq ?_
      refine Cd.region ?_
      refine Ol.p asb ?_
      refine Ol.nil ?_
      refine Cd.ret ⟨_, ret1 rfl rfl, [], .nil, ?_, rfl⟩
      have hne : a ≠ b := fun e => by subst e; simp at h2
      rw [decide_eq_false hne]; rfl
    · refine Cd.skip ?_
      refine Cd.region ?_
      refine Ol.p mvi ?_
      refine Ol.p addi ?_
      refine Ol.p asi ?_
      refine Ol.nil ?_
      refine ⟨a.length - (k + 1), by omega, k + 1, rfl, by omega, ⟨rfl, rfl, rfl, trivial⟩, rfl, ?_⟩
      intro i x y hi hx hy
      rcases Nat.lt_or_ge i k with h3 | h3
      · exact hyes i x y h3 hx hy
      · have : i = k := by omega
        subst this
        rw [List.getElem?_eq_getElem hlt] at hx
        rw [List.getElem?_eq_getElem hlt2] at hy
        cases hx; cases hy
        simpa using h2
  · have hge : k = a.length := by
      have : ¬ (k : Int) < a.length := by simpa using h
      omega
    subst hge
    refine Cd.exit (id := 0) ?_
    refine Cd.seq ?_
    refine Cd.region ?_
    refine Ol.p asb ?_
    refine Ol.nil ?_
    refine Cd.ret ⟨_, ret1 rfl rfl, [], .nil, ?_, rfl⟩
    rw [decide_eq_true (ints_eq_of hll hyes)]; rfl
end


end Go.Proofs.YtcojedoejpcolaaGreat

/- The package ir: whole functions, walked. -/
namespace Go.Proofs.YtcojedoejpcolaaGreat
set_option linter.unusedVariables false
open Go Go.RowKit
set_option maxRecDepth 100000

theorem ints_at {l : List Int} {k : Nat} {n : Int} (h : l[k]? = some n) : (ints l)[k]? = some (.int .i64 n) := by simp [ints, h]
def seenV (l : List Int) : VS := fun j => decide ((j : Int) ∈ l)
theorem whole_split (f : RFun) : wholeF f = (f.params.all varB && decide f.params.Nodup && f.blocks.all wholeB) := rfl
theorem nodup_snoc {l : List Int} {n : Int} (h : l.Nodup) (hn : n ∉ l) : (l ++ [n]).Nodup := by
  rw [List.nodup_append]
  refine ⟨h, by simp, fun a ha b hb => ?_⟩
  have : b = n := by simpa using hb
  subst this
  exact fun e => hn (e ▸ ha)
section
set_option maxHeartbeats 2000000 in
theorem ir_whole_ct {w : World} {f : RFun} (hf : FunAt w w.heap.size f) (hfit : Fit f) : Ct Tryz.prog 83 #[f.val] w (Is (.bool (wholeF f))) := by
  have hbl := hfit.blen
  have hpl := hfit.plen
  refine Ct.mk Tryz.func83 rfl rfl ?_
  refine Cd.seq ?_
  refine Cd.region ?_
  refine Ol.x bxg ?_
  rintro _ _ ⟨g1, rfl, rfl⟩
  refine Ol.p asb ?_
  refine Ol.nil ?_
  refine Cd.seq ?_
  refine Cd.region ?_
  refine Ol.x (alc zr_ir_set) ?_
  rintro _ _ ⟨g3, rfl, rfl⟩
  refine Ol.nil ?_
  refine Cd.mid (fun σ' L' => ∃ Z, (f.params.all varB = true ∧ f.params.Nodup) ∧ Has σ' [(1, .pointer (some ⟨g1, 0, none⟩))] ∧ [blk g3 (.cells Z 145), blk g1 (.cells f.cells.toArray 37)] = L') ?_ ?_
  · refine Cd.seq ?_
    refine Cd.region ?_
    refine Ol.p (fdl fd_api_Func_0) ?_
    refine Ol.p (ld one_L_int (Rd.blk (i := 1) rfl rfl)) ?_
    refine Ol.p (lens sl_L_int) ?_
    refine Ol.p mvi ?_
    refine Ol.nil ?_
    refine Cd.block ?_   -- 0
    refine Cd.loop (fun m σ L => ∃ k, m = f.params.length - k ∧ k ≤ f.params.length ∧ Has σ [(1, .pointer (some ⟨g1, 0, none⟩)), (3, .pointer (some ⟨g3, 0, none⟩)), (9, .slice f.pA f.params.length f.pC), (10, .int .i64 f.params.length), (11, .int .i64 k)] ∧ [blk g3 (.cells (encV (seenV (f.params.take k))) 145), blk g1 (.cells f.cells.toArray 37)] = L ∧ (∀ n ∈ f.params.take k, varB n = true) ∧ (f.params.take k).Nodup) (n := f.params.length) ⟨0, rfl, Nat.zero_le _, ⟨rfl, rfl, rfl, rfl, rfl, trivial⟩, by rw [show encV (seenV (f.params.take 0)) = encV fun _ => false from encV_congr fun i _ => by simp [seenV], ← zeroV]; rfl, by simp, by simp⟩ ?_
    rintro _ σ L ⟨k, rfl, hk, hs, rfl, hv, hnd⟩
    refine Cd.has hs ?_
    refine Cd.seq ?_
    refine Cd.region ?_
    refine Ol.p lsi ?_
    refine Ol.nil ?_
    refine Cd.seq ?_
    refine Cd.cond rfl (fun h => ?_) (fun h => ?_)   -- $12
    · have hlt : k < f.params.length := by
        simp only [decide_eq_true_eq] at h; omega
      obtain ⟨p, hp⟩ : ∃ p, f.params[k]? = some p := ⟨_, List.getElem?_eq_getElem hlt⟩
      have hpm := List.mem_of_getElem? hp
      refine Cd.skip ?_
      refine Cd.seq ?_
      refine Cd.block ?_   -- 1
      refine Cd.seq ?_
      refine Cd.region ?_
      refine Ol.p (ixn1 (ix := k) sl_L_int (Som.slc hf.params (by omega))) ?_
      refine Ol.p (ld one_int (Rd.slc hf.params (ints_at hp))) ?_
      refine Ol.p asi ?_
      refine Ol.nil ?_
      cases hvp : varB p with
      | false =>
        have hg : (!varB p) = true := by rw [hvp]; rfl
        refine Cd.seq ?_
        refine Cd.seq ?_
        refine Cd.region ?_
        refine Ol.p mvi ?_
        refine Ol.s (cl en_ir_variable (fun M w' hh => ir_variable_ct)) ?_
        refine Ol.p noti ?_
        refine Ol.p mvb ?_
        refine Ol.gn hg ?_
        refine Ol.gn hg ?_
        refine Ol.gn hg ?_
        refine Ol.p (pkTb hg) ?_
        refine Ol.nil ?_
        refine Cd.cond rfl (fun h => ?_) (fun h => by cases h)   -- $22
        refine Cd.seq ?_
        refine Cd.region ?_
        refine Ol.p asb ?_
        refine Ol.nil ?_
        refine Cd.ret ⟨.bool _, ret1 rfl rfl, [], .nil, ?_, rfl⟩
        have : f.params.all varB = false := by
          rw [List.all_eq_false]
          exact ⟨p, hpm, by rw [hvp]; simp⟩
        rw [whole_split, this]; rfl
      | true =>
        have hg : (!varB p) = false := by rw [hvp]; rfl
        have hpr := varB_iff.1 hvp
        obtain ⟨m, rfl⟩ : ∃ m : Nat, p = (m : Int) := ⟨p.toNat, by omega⟩
        have hm : m < 201 := by omega
        refine Cd.seq ?_
        refine Cd.seq ?_
        refine Cd.region ?_
        refine Ol.p mvi ?_
        refine Ol.s (cl en_ir_variable (fun M w' hh => ir_variable_ct)) ?_
        refine Ol.p noti ?_
        refine Ol.p mvb ?_
        refine Ol.gp hg mvi ?_
        refine Ol.gp hg (ixl1 (ix := m) ar_ir_set) ?_
        refine Ol.gp hg (ld one_bool (Rd.blk (i := 0) rfl (encV_get hm))) ?_
        refine Ol.p (pkFb hg) ?_
        refine Ol.nil ?_
        refine Cd.cond rfl (fun h => ?_) (fun h => ?_)   -- $22
        · refine Cd.seq ?_
          refine Cd.region ?_
          refine Ol.p asb ?_
          refine Ol.nil ?_
          refine Cd.ret ⟨.bool _, ret1 rfl rfl, [], .nil, ?_, rfl⟩
          have hmem : (m : Int) ∈ f.params.take k := by simpa [seenV] using h
          have : decide f.params.Nodup = false := by
            rw [decide_eq_false_iff_not]
            intro hN
            rw [← List.take_append_drop k f.params, List.nodup_append] at hN
            exact hN.2.2 _ hmem _ (List.mem_of_getElem? (i := 0) (by rw [List.getElem?_drop]; exact hp)) rfl
          rw [whole_split, this, Bool.and_false]; rfl
        have hmem : (m : Int) ∉ f.params.take k := by simpa [seenV] using h
        refine Cd.skip ?_
        refine Cd.region ?_
        refine Ol.p mvi ?_
        refine Ol.p (ixl1 (ix := m) ar_ir_set) ?_
        refine Ol.s (sto (k := m) (.inr sz_bool) rfl rfl (i := 0) rfl (by rw [encV_size]; exact hm) rfl) ?_
        refine Ol.nil ?_
        refine Cd.region ?_
        refine Ol.p addi ?_
        refine Ol.p mvi ?_
        refine Ol.nil ?_
        have e : (encV (seenV (f.params.take k))).setIfInBounds m (.bool true) = encV (seenV (f.params.take (k + 1))) := encV_put fun j hj => by
          unfold putV seenV
          rw [take_snoc_ hp]
          by_cases e : j = m
          · subst e; simp
          · have : ¬ (j : Int) = (m : Int) := by omega
            simp [e, this]
        refine ⟨f.params.length - (k + 1), by omega, k + 1, rfl, by omega, ⟨rfl, rfl, rfl, rfl, rfl, trivial⟩, congrArg (fun cs => [blk g3 (.cells cs 145), blk g1 (.cells f.cells.toArray 37)]) e.symm, ?_, ?_⟩
        · rw [take_snoc_ hp]
          intro n hn
          rcases List.mem_append.1 hn with h1 | h1
          · exact hv n h1
          · have : n = (m : Int) := by simpa using h1
            rw [this]; exact hvp
        · rw [take_snoc_ hp]
          exact nodup_snoc hnd hmem
    have hk2 : k = f.params.length := by
      simp only [decide_eq_false_iff_not] at h; omega
    subst hk2
    rw [List.take_length] at hv hnd
    refine Cd.exit (id := 0) ?_
    exact ⟨_, ⟨by rw [List.all_eq_true]; exact hv, hnd⟩, ⟨rfl, trivial⟩, rfl⟩
  rintro σ' _ ⟨Z, ⟨hv, hnd⟩, hs', rfl⟩
  refine Cd.has hs' ?_
  have hsplit : wholeF f = f.blocks.all wholeB := by
    rw [whole_split, hv, decide_eq_true hnd]; rfl
  refine Cd.seq ?_
  refine Cd.seq ?_
  refine Cd.region ?_
  refine Ol.p (fdl fd_api_Func_1) ?_
  refine Ol.p (ld one_L_api_Block (Rd.blk (i := 1) rfl rfl)) ?_
  refine Ol.p (lens sl_L_api_Block) ?_
  refine Ol.p mvi ?_
  refine Ol.nil ?_
  refine Cd.block ?_   -- 2
  refine Cd.loop (fun m σ L => ∃ k, m = f.blocks.length - k ∧ k ≤ f.blocks.length ∧ Has σ [(1, .pointer (some ⟨g1, 0, none⟩)), (27, .slice f.bA f.blocks.length f.bC), (28, .int .i64 f.blocks.length), (29, .int .i64 k)] ∧ [blk g3 (.cells Z 145), blk g1 (.cells f.cells.toArray 37)] = L ∧ ∀ b ∈ f.blocks.take k, wholeB b = true) (n := f.blocks.length) ⟨0, rfl, Nat.zero_le _, ⟨rfl, rfl, rfl, rfl, trivial⟩, rfl, by simp⟩ ?_
  rintro _ σ L ⟨k, rfl, hk, hs, rfl, hw⟩
  refine Cd.has hs ?_
  refine Cd.seq ?_
  refine Cd.region ?_
  refine Ol.p lsi ?_
  refine Ol.nil ?_
  refine Cd.seq ?_
  refine Cd.cond rfl (fun h => ?_) (fun h => ?_)   -- $30
  · have hlt : k < f.blocks.length := by
      simp only [decide_eq_true_eq] at h; omega
    obtain ⟨b, hb⟩ : ∃ b, f.blocks[k]? = some b := ⟨_, List.getElem?_eq_getElem hlt⟩
    have hbm := List.mem_of_getElem? hb
    have hba := hf.blk hfit hbm
    have hbl2 := hba.len
    have hno : wholeB b = false → wholeF f = false := fun h0 => by
      rw [hsplit, List.all_eq_false]
      exact ⟨b, hbm, by rw [h0]; simp⟩
    refine Cd.skip ?_
    refine Cd.seq ?_
    refine Cd.block ?_   -- 3
    refine Cd.seq ?_
    refine Cd.region ?_
    refine Ol.p (ixn sl_L_api_Block (Som.slc hf.blocks (by omega))) ?_
    refine Ol.p (lds (es := b.cells) ag_api_Block hf.blocks b.len (fun j u hu => blk_cell hb hu)) ?_
    refine Ol.x (alc zr_api_Block) ?_
    rintro _ _ ⟨g7, rfl, rfl⟩
    refine Ol.s (stw sz_api_Block rfl b.one (i := 0) rfl rfl) ?_
    refine Ol.nil ?_
    refine Cd.seq ?_
    cases ht : isTerm b.term with
    | false =>
      have hg : (!isTerm b.term) = true := by rw [ht]; rfl
      refine Cd.region ?_
      refine Ol.p (fdl fd_api_Block_1) ?_
      refine Ol.p (ldp (k := 0 + 1) (vs := b.term.cells.toArray) ag_api_Term (i := 0) rfl rfl (fun j u hu => by rw [Nat.zero_add, Nat.add_comm]; simpa [RBlk.cells] using hu)) ?_
      refine Ol.s (cl en_ir_IsTerm (fun M w' hh => ir_IsTerm_ct (t := b.term))) ?_
      refine Ol.p noti ?_
      refine Ol.p mvb ?_
      refine Ol.gn hg ?_
      refine Ol.gn hg ?_
      refine Ol.gn hg ?_
      refine Ol.p (pkTb hg) ?_
      refine Ol.nil ?_
      refine Cd.cond rfl (fun h => ?_) (fun h => by cases h)   -- $41
      refine Cd.seq ?_
      refine Cd.region ?_
      refine Ol.p asb ?_
      refine Ol.nil ?_
      refine Cd.ret ⟨.bool _, ret1 rfl rfl, [], .nil, ?_, rfl⟩
      rw [hno (by unfold wholeB; rw [ht]; rfl)]
    | true =>
      have hg : (!isTerm b.term) = false := by rw [ht]; rfl
      refine Cd.region ?_
      refine Ol.p (fdl fd_api_Block_1) ?_
      refine Ol.p (ldp (k := 0 + 1) (vs := b.term.cells.toArray) ag_api_Term (i := 0) rfl rfl (fun j u hu => by rw [Nat.zero_add, Nat.add_comm]; simpa [RBlk.cells] using hu)) ?_
      refine Ol.s (cl en_ir_IsTerm (fun M w' hh => ir_IsTerm_ct (t := b.term))) ?_
      refine Ol.p noti ?_
      refine Ol.p mvb ?_
      refine Ol.gp hg (fdl fd_api_Block_0) ?_
      refine Ol.gp hg (ld one_L_api_Ins (Rd.blk (i := 0) rfl rfl)) ?_
      refine Ol.gs hg (cl en_slices_ContainsFunc_L_api_Ins_api_Ins (fun M w' hh => slices_ContainsFunc_Ins_ct (g := 129) (fst := #[]) (cap := #[]) (p := fun i => !isIns i) ((hba.now hh).ins) (by omega) ⟨en_ir_whole_1, fun i hi w2 h2 => ir_whole_1_ct (((hba.now hh).all i hi).below h2)⟩)) ?_
      refine Ol.p (pkFb hg) ?_
      refine Ol.nil ?_
      refine Cd.cond rfl (fun h => ?_) (fun h => ?_)   -- $41
      · refine Cd.seq ?_
        refine Cd.region ?_
        refine Ol.p asb ?_
        refine Ol.nil ?_
        refine Cd.ret ⟨.bool _, ret1 rfl rfl, [], .nil, ?_, rfl⟩
        rw [hno ?_]
        unfold wholeB
        rw [ht, Bool.true_and, List.all_eq_false]
        rw [List.any_eq_true] at h
        obtain ⟨i, hi, h3⟩ := h
        exact ⟨i, hi, by simpa using h3⟩
      have hwb : wholeB b = true := by
        unfold wholeB
        rw [ht, Bool.true_and, List.all_eq_true]
        rw [List.any_eq_false] at h
        intro i hi
        have := h i hi
        simpa using this
      refine Cd.keep (.sub (.cons _ (List.Sublist.refl _))) ?_
      refine Cd.skip ?_
      refine Cd.region ?_
      refine Ol.p addi ?_
      refine Ol.p mvi ?_
      refine Ol.nil ?_
      refine ⟨f.blocks.length - (k + 1), by omega, k + 1, rfl, by omega, ⟨rfl, rfl, rfl, rfl, trivial⟩, rfl, ?_⟩
      rw [take_snoc_ hb]
      intro x hx
      rcases List.mem_append.1 hx with h1 | h1
      · exact hw x h1
      · have : x = b := by simpa using h1
        rw [this]; exact hwb
  have hk2 : k = f.blocks.length := by
    simp only [decide_eq_false_iff_not] at h; omega
  subst hk2
  rw [List.take_length] at hw
  refine Cd.exit (id := 2) ?_
  refine Cd.seq ?_
  refine Cd.region ?_
  refine Ol.p asb ?_
  refine Ol.nil ?_
  refine Cd.ret ⟨.bool _, ret1 rfl rfl, [], .nil, ?_, rfl⟩
  have : f.blocks.all wholeB = true := by rw [List.all_eq_true]; exact hw
  rw [hsplit, this]
end
end Go.Proofs.YtcojedoejpcolaaGreat

/- The package ir: which blocks are reached, walked. -/
namespace Go.Proofs.YtcojedoejpcolaaGreat
set_option linter.unusedVariables false
open Go Go.RowKit
set_option maxRecDepth 100000

theorem intsN_one' (l : List Nat) : ∀ u ∈ intsN l, u.oneCell' = true := by
  intro u hu
  unfold intsN at hu
  rw [List.mem_map] at hu
  obtain ⟨_, _, rfl⟩ := hu
  rfl
theorem slq {P : Program} {w0 : World} {B : Nat} {σ : Env} {L : List Res} {d : Option Nat} {ty T : TypeId} {pos : String} {af : Array Edge} {gd : Option (Nat × Bool)} {x y : Operand} {g off off' n c e b : Nat} {k : IntKind} (hT : SlT P T e 1 b) (hl : 1 ≤ n) (ho : off' = if c = 1 then off else off + 1) (hx : ev σ x = .slice (some ⟨g, off, none⟩) n c := by exact rfl) (hy : ev σ y = .int k ((1 : Nat) : Int) := by exact rfl) :
    Sd P w0 B ⟨d, .slice T x (some y) none none, ty, pos, af, gd⟩ σ L (.slice (some ⟨g, off', none⟩) (n - 1) (c - 1)) := by
  have := sll (d := d) (ty := ty) (pos := pos) (af := af) (gd := gd) (P := P) (w0 := w0) (B := B) (L := L) (l := 1) hT hl hx hy
  have e : (if c = 1 then (some ⟨g, off, none⟩ : Option Addr) else (some ⟨g, off, none⟩ : Option Addr).map (·.add (1 * 1))) = some ⟨g, off', none⟩ := by
    rw [ho]
    by_cases e : c = 1 <;> simp [e, add_lit_]
  rwa [e] at this
section
set_option maxHeartbeats 4000000 in
theorem ir_reach_ct {w : World} {f : RFun} (hf : FunAt w w.heap.size f) (hfit : Fit f) (h0 : 0 < f.blocks.length) (h200 : f.blocks.length ≤ 200) :
    Ct Tryz.prog 86 #[f.val] w (Is (.tuple (bif okEs f.terms then #[.int .i64 ((orderF f.terms).length : Nat), .bool true] else #[.int .i64 0, .bool false]))) := by
  have htl : f.terms.length = f.blocks.length := by simp [RFun.terms]
  refine Ct.mk Tryz.func86 rfl rfl ?_
  refine Cd.seq ?_
  refine Cd.region ?_
  refine Ol.x bxg ?_
  rintro _ _ ⟨g1, rfl, rfl⟩
  refine Ol.p asi ?_
  refine Ol.p asb ?_
  refine Ol.nil ?_
  refine Cd.seq ?_
  refine Cd.region ?_
  refine Ol.p (fdl fd_api_Func_1) ?_
  refine Ol.p (ld one_L_api_Block (Rd.blk (i := 0) rfl rfl)) ?_
  refine Ol.p (lens sl_L_api_Block) ?_
  refine Ol.x (mks (n := f.blocks.length) (c := f.blocks.length) sl_L_bool zr_bool) ?_
  rintro _ _ ⟨gs, rfl, rfl⟩
  refine Ol.p ass ?_
  refine Ol.nil ?_
  rw [show (madeCells (Value.bool false).cells (f.blocks.length * 1)).toList.take (f.blocks.length * 1) = boolsL f.blocks.length fun _ => false from made_bools _]
  obtain ⟨L0, hL0⟩ : ∃ L0, L0 = [row (.slice (some ⟨gs, 0, none⟩) f.blocks.length f.blocks.length) 4 1 f.blocks.length (boolsL f.blocks.length fun _ => false), blk g1 (.cells f.cells.toArray 37)] := ⟨_, rfl⟩
  refine Cd.mid (fun σ' L' => okEs f.terms = true ∧ Has σ' [(1, .pointer (some ⟨g1, 0, none⟩)), (2, .int .i64 0), (4, .slice (some ⟨gs, 0, none⟩) f.blocks.length f.blocks.length)] ∧ L0 = L') ?_ ?_
  · refine Cd.seq ?_
    refine Cd.region ?_
    refine Ol.p (fdl fd_api_Func_1) ?_
    refine Ol.p (ld one_L_api_Block (Rd.blk (i := 1) rfl rfl)) ?_
    refine Ol.p (lens sl_L_api_Block) ?_
    refine Ol.p mvi ?_
    refine Ol.nil ?_
    refine Cd.block ?_   -- 0
    refine Cd.loop (fun m σ L => ∃ k, m = f.blocks.length - k ∧ k ≤ f.blocks.length ∧ Has σ [(1, .pointer (some ⟨g1, 0, none⟩)), (2, .int .i64 0), (4, .slice (some ⟨gs, 0, none⟩) f.blocks.length f.blocks.length), (16, .slice f.bA f.blocks.length f.bC), (17, .int .i64 f.blocks.length), (18, .int .i64 k)] ∧ L0 = L ∧ ∀ t ∈ f.terms.take k, (toL t).all (fun n => decide (1 ≤ n) && decide (n < (f.terms.length : Int))) = true) (n := f.blocks.length) ⟨0, rfl, Nat.zero_le _, ⟨rfl, rfl, rfl, rfl, rfl, rfl, trivial⟩, hL0, by simp⟩ ?_
    rintro _ σ L ⟨k, rfl, hk, hs, rfl, hall⟩
    refine Cd.has hs ?_
    refine Cd.seq ?_
    rw [hL0]
    refine Cd.region ?_
    refine Ol.p lsi ?_
    refine Ol.nil ?_
    refine Cd.seq ?_
    refine Cd.cond rfl (fun h => ?_) (fun h => ?_)   -- $19
    · have hlt : k < f.blocks.length := by
        simp only [decide_eq_true_eq] at h; omega
      obtain ⟨b, hb⟩ : ∃ b, f.blocks[k]? = some b := ⟨_, List.getElem?_eq_getElem hlt⟩
      have ht : f.terms[k]? = some b.term := by simp [RFun.terms, hb]
      have hbm := List.mem_of_getElem? hb
      refine Cd.skip ?_
      refine Cd.seq ?_
      refine Cd.block ?_   -- 1
      refine Cd.seq ?_
      refine Cd.region ?_
      refine Ol.p (ixn sl_L_api_Block (Som.slc hf.blocks (by omega))) ?_
      refine Ol.p (lds (es := b.cells) ag_api_Block hf.blocks b.len (fun j u hu => blk_cell hb hu)) ?_
      refine Ol.x (alc zr_api_Block) ?_
      rintro _ _ ⟨g6, rfl, rfl⟩
      refine Ol.s (stw sz_api_Block rfl b.one (i := 0) rfl rfl) ?_
      refine Ol.nil ?_
      refine Cd.seq ?_
      refine Cd.region ?_
      refine Ol.p (fdl fd_api_Block_1) ?_
      refine Ol.p (ldp (k := 0 + 1) (vs := b.term.cells.toArray) ag_api_Term (i := 0) rfl rfl (fun j u hu => by rw [Nat.zero_add, Nat.add_comm]; simpa [RBlk.cells] using hu)) ?_
      refine Ol.x (sp_call en_ir_To (fun M w' hh => ir_To_ct (t := b.term))) ?_
      rintro _ _ ⟨_, rfl, A24, c24, rfl, rfl⟩
      refine Ol.p (lens sl_L_int) ?_
      refine Ol.p mvi ?_
      refine Ol.nil ?_
      obtain ⟨to, hto⟩ : ∃ to, to = toL b.term := ⟨_, rfl⟩
      have htoL := toL_len b.term
      rw [← hto] at htoL ⊢
      refine Cd.block ?_   -- 2
      obtain ⟨L1, hL1⟩ : ∃ L1, L1 = row (.slice A24 to.length c24) 3 1 to.length (ints to) :: blk g6 (.cells b.cells.toArray 34) :: L0 := ⟨_, rfl⟩
      refine Cd.loop (fun m σ L => ∃ j, m = to.length - j ∧ j ≤ to.length ∧ Has σ [(1, .pointer (some ⟨g1, 0, none⟩)), (2, .int .i64 0), (4, .slice (some ⟨gs, 0, none⟩) f.blocks.length f.blocks.length), (16, .slice f.bA f.blocks.length f.bC), (17, .int .i64 f.blocks.length), (18, .int .i64 k), (24, .slice A24 to.length c24), (25, .int .i64 to.length), (26, .int .i64 j)] ∧ L1 = L ∧ ∀ n ∈ to.take j, 1 ≤ n ∧ n < (f.blocks.length : Int)) (n := to.length) ⟨0, rfl, Nat.zero_le _, ⟨rfl, rfl, rfl, rfl, rfl, rfl, rfl, rfl, rfl, trivial⟩, by rw [hL1, hL0]; rfl, by simp⟩ ?_
      clear hs
      rintro _ σ L ⟨j, rfl, hj, hs, rfl, hto2⟩
      refine Cd.has hs ?_
      refine Cd.seq ?_
      rw [hL1, hL0]
      refine Cd.region ?_
      refine Ol.p lsi ?_
      refine Ol.nil ?_
      refine Cd.seq ?_
      refine Cd.cond rfl (fun h2 => ?_) (fun h2 => ?_)   -- $27
      · have hjl : j < to.length := by
          simp only [decide_eq_true_eq] at h2; omega
        obtain ⟨n, hn⟩ : ∃ n, to[j]? = some n := ⟨_, List.getElem?_eq_getElem hjl⟩
        have hnm := List.mem_of_getElem? hn
        have hbad : ¬ (1 ≤ n ∧ n < (f.blocks.length : Int)) → okEs f.terms = false := fun hno => by
          unfold okEs
          rw [List.all_eq_false]
          refine ⟨b.term, List.mem_of_getElem? ht, ?_⟩
          rw [← hto]
          intro h3
          rw [List.all_eq_true] at h3
          have := h3 n hnm
          rw [htl] at this
          exact hno (by simpa using this)
        refine Cd.skip ?_
        refine Cd.seq ?_
        refine Cd.block ?_   -- 3
        refine Cd.seq ?_
        refine Cd.region ?_
        refine Ol.p (ixn1 (ix := j) sl_L_int (Som.row (i := 0) rfl (by omega))) ?_
        refine Ol.p (ld one_int (Rd.row (i := 0) rfl (ints_at hn))) ?_
        refine Ol.p asi ?_
        refine Ol.nil ?_
        refine Cd.seq ?_
        cases hlow : decide (n < 1) with
        | true =>
          refine Cd.region ?_
          refine Ol.p mvi ?_
          refine Ol.p lsi ?_
          refine Ol.p mvb ?_
          refine Ol.gn hlow ?_
          refine Ol.gn hlow ?_
          refine Ol.gn hlow ?_
          refine Ol.gn hlow ?_
          refine Ol.gn hlow ?_
          refine Ol.p (pkTb hlow) ?_
          refine Ol.nil ?_
          refine Cd.cond rfl (fun h => ?_) (fun h => by cases h)   -- $38
          refine Cd.seq ?_
          refine Cd.region ?_
          refine Ol.p asi ?_
          refine Ol.p asb ?_
          refine Ol.nil ?_
          refine Cd.ret ⟨.tuple _, ret2 rfl rfl rfl, [], .nil, ?_, rfl⟩
          rw [hbad (by simp only [decide_eq_true_eq] at hlow; omega)]; rfl
        | false =>
          refine Cd.region ?_
          refine Ol.p mvi ?_
          refine Ol.p lsi ?_
          refine Ol.p mvb ?_
          refine Ol.gp hlow mvi ?_
          refine Ol.gp hlow (fdl fd_api_Func_1) ?_
          refine Ol.gp hlow (ld one_L_api_Block (Rd.blk (i := 3) rfl rfl)) ?_
          refine Ol.gp hlow (lens sl_L_api_Block) ?_
          refine Ol.gp hlow gei ?_
          refine Ol.p (pkFb hlow) ?_
          refine Ol.nil ?_
          refine Cd.cond rfl (fun h => ?_) (fun h => ?_)   -- $38
          · refine Cd.seq ?_
            refine Cd.region ?_
            refine Ol.p asi ?_
            refine Ol.p asb ?_
            refine Ol.nil ?_
            refine Cd.ret ⟨.tuple _, ret2 rfl rfl rfl, [], .nil, ?_, rfl⟩
            rw [hbad (by simp only [decide_eq_true_eq] at h; omega)]; rfl
          refine Cd.skip ?_
          refine Cd.region ?_
          refine Ol.p addi ?_
          refine Ol.p mvi ?_
          refine Ol.nil ?_
          refine ⟨to.length - (j + 1), by omega, j + 1, rfl, by omega, ⟨rfl, rfl, rfl, rfl, rfl, rfl, rfl, rfl, rfl, trivial⟩, rfl, ?_⟩
          intro x hx
          rw [take_snoc_ hn] at hx
          rcases List.mem_append.1 hx with h3 | h3
          · exact hto2 x h3
          · have : x = n := by simpa using h3
            subst this
            simp only [decide_eq_false_iff_not] at h hlow
            omega
      have hj2 : j = to.length := by
        simp only [decide_eq_false_iff_not] at h2; omega
      subst hj2
      rw [List.take_length] at hto2
      refine Cd.exit (id := 2) ?_
      refine Cd.keep (.sub (.cons _ (.cons _ (List.Sublist.refl _)))) ?_
      refine Cd.region ?_
      refine Ol.p addi ?_
      refine Ol.p mvi ?_
      refine Ol.nil ?_
      refine ⟨f.blocks.length - (k + 1), by omega, k + 1, rfl, by omega, ⟨rfl, rfl, rfl, rfl, rfl, rfl, trivial⟩, rfl, ?_⟩
      intro x hx
      rw [take_snoc_ ht] at hx
      rcases List.mem_append.1 hx with h3 | h3
      · exact hall x h3
      · have : x = b.term := by simpa using h3
        subst this
        rw [← hto, List.all_eq_true]
        intro n hn
        have := hto2 n hn
        rw [htl]
        simpa using this
    have hk2 : k = f.blocks.length := by
      simp only [decide_eq_false_iff_not] at h; omega
    subst hk2
    rw [← htl, List.take_length] at hall
    refine Cd.exit (id := 0) ?_
    refine ⟨?_, ⟨rfl, rfl, rfl, trivial⟩, rfl⟩
    unfold okEs
    rw [List.all_eq_true]
    exact hall
  rintro σ' _ ⟨hok, hs', rfl⟩
  refine Cd.has hs' ?_
  have hcl := okEs_closed hok (by omega) (by omega)
  rw [hok, cond_true]
  refine Cd.seq ?_
  refine Cd.seq ?_
  rw [hL0]
  refine Cd.region ?_
  refine Ol.x (bsv [.int .i64 0] sl_L_int zr_int (by simp [Value.cells])) ?_
  rintro _ _ ⟨gq, rfl, rfl⟩
  refine Ol.p ass ?_
  refine Ol.nil ?_
  refine Cd.unrow (fun cs0 hcs1 hcs2 => ?_)
  refine Cd.block ?_   -- 4
  refine Cd.loop (fun m σ L => ∃ (S : Nat → Bool) (todo : List Nat) (g off c : Nat) (cs : Array Value), m = 3 * (f.blocks.length - cntB f.blocks.length S) + todo.length ∧ Bfs f.terms S todo ∧ todo.length ≤ 1 + 2 * cntB f.blocks.length S ∧ (off + c ≤ cs.size ∧ todo.length ≤ c ∧ ∀ j u, (intsN todo)[j]? = some u → cs[off + j]? = some u) ∧ Has σ [(1, .pointer (some ⟨g1, 0, none⟩)), (2, .int .i64 (cntB f.blocks.length S : Nat)), (4, .slice (some ⟨gs, 0, none⟩) f.blocks.length f.blocks.length), (9, .slice (some ⟨g, off, none⟩) todo.length c)] ∧
      [blk g (.cells cs 3), row (.slice (some ⟨gs, 0, none⟩) f.blocks.length f.blocks.length) 4 1 f.blocks.length (boolsL f.blocks.length S), blk g1 (.cells f.cells.toArray 37)] = L) (n := 3 * (f.blocks.length - cntB f.blocks.length fun _ => false) + 1)
    ⟨fun _ => false, [0], gq, 0, 1, cs0, rfl, Bfs.start (by omega), by simp, ⟨by omega, Nat.le_refl _, fun j u hu => ?_⟩, ⟨rfl, by rw [show cntB f.blocks.length (fun _ => false) = 0 by simp [cntB]]; rfl, rfl, rfl, trivial⟩, rfl⟩ ?_
  · have h3 : (cs0.toList.take (1 * 1))[j]? = some u := by rw [hcs2]; exact hu
    rw [List.getElem?_take] at h3
    split at h3
    · rw [Nat.zero_add]; simpa using h3
    · cases h3
  rintro _ σ L ⟨S, todo, g, off, c, cs, rfl, hB, hlen, ⟨hsz, hnc, hcell⟩, hs, rfl⟩
  refine Cd.has hs ?_
  have hcnt := cntB_le f.blocks.length S
  refine Cd.seq ?_
  refine Cd.seq ?_
  refine Cd.region ?_
  refine Ol.p mvs ?_
  refine Ol.p (lens sl_L_int) ?_
  refine Ol.p gti ?_
  refine Ol.nil ?_
  refine Cd.cond rfl (fun h => ?_) (fun h => ?_)   -- $44
  · obtain ⟨x, rest, rfl⟩ : ∃ x rest, todo = x :: rest := by
      cases todo with
      | nil => simp at h
      | cons x rest => exact ⟨x, rest, rfl⟩
    obtain ⟨hxl, hxr⟩ := hB.t x (by simp)
    rw [htl] at hxl
    obtain ⟨b, hb⟩ : ∃ b, f.blocks[x]? = some b := ⟨_, List.getElem?_eq_getElem hxl⟩
    have ht : f.terms[x]? = some b.term := by simp [RFun.terms, hb]
    have h00 : cs[off + 0]? = some (.int .i64 (x : Int)) := hcell 0 _ rfl
    have hrest : ∀ j u, (intsN rest)[j]? = some u → cs[(if c = 1 then off else off + 1) + j]? = some u := fun j u hu => by
      by_cases e : c = 1
      · have : rest.length = 0 := by simp only [List.length_cons] at hnc; omega
        have : rest = [] := List.eq_nil_of_length_eq_zero this
        subst this; simp [intsN] at hu
      · rw [if_neg e, show off + 1 + j = off + (j + 1) by omega]
        exact hcell (j + 1) u hu
    simp only [List.length_cons] at hnc hlen
    obtain ⟨off', hoff⟩ : ∃ off', off' = if c = 1 then off else off + 1 := ⟨_, rfl⟩
    have hsz' : off' + (c - 1) ≤ cs.size := by rw [hoff]; split <;> omega
    rw [← hoff] at hrest
    refine Cd.skip ?_
    refine Cd.block ?_   -- 5
    refine Cd.seq ?_
    refine Cd.region ?_
    refine Ol.p mvs ?_
    refine Ol.p (ixo (ix := 0) (n := rest.length + 1) sl_L_int) ?_
    refine Ol.p (ld one_int (Rd.blk (i := 0) rfl h00)) ?_
    refine Ol.p asi ?_
    refine Ol.nil ?_
    refine Cd.seq ?_
    refine Cd.region ?_
    refine Ol.p mvs ?_
    refine Ol.p (slq (n := rest.length + 1) (c := c) (off' := off') sl_L_int (by omega) hoff) ?_
    refine Ol.p ass ?_
    refine Ol.nil ?_
    refine Cd.seq ?_
    refine Cd.region ?_
    refine Ol.p mvs ?_
    refine Ol.p mvi ?_
    refine Ol.p (ixn1 (ix := x) sl_L_bool (Som.row (i := 1) rfl (by omega))) ?_
    refine Ol.p (ld one_bool (Rd.row (i := 1) rfl (boolsL_get hxl))) ?_
    refine Ol.p noti ?_
    refine Ol.nil ?_
    refine Cd.cond rfl (fun h2 => ?_) (fun h2 => ?_)   -- $54
    · have hSx : S x = false := by simpa using h2
      have hcs := cntB_set hxl hSx
      have hcl2 := cntB_le f.blocks.length (setB S x)
      have hat : ∀ n ∈ toL b.term, 0 ≤ n := fun n hn => by have := okEs_at hok (a := x) (by rw [toAt_some ht]; exact hn); omega
      have htoN : (toN b.term).length ≤ 2 := by have := toL_len b.term; unfold toN; rw [List.length_map]; exact this
      have htoN2 : (toL b.term).length = (toN b.term).length := by unfold toN; rw [List.length_map]
      have hB2 : Bfs f.terms (setB S x) (rest ++ toN b.term) := hB.see (fun q => by rw [mem_toN hat, toAt_some ht]) (fun q hq => by
        have := okEs_at hok (a := x) (n := (q : Int)) (by rw [toAt_some ht]; exact (mem_toN hat q).1 hq); omega)
      refine Cd.seq ?_
      refine Cd.region ?_
      refine Ol.p mvs ?_
      refine Ol.p mvi ?_
      refine Ol.p (ixn1 (ix := x) sl_L_bool (Som.row (i := 1) rfl (by omega))) ?_
      refine Ol.s (str (i := 1) (k := x) sz_bool rfl rfl rfl (by rw [boolsL_len]; exact hxl) rfl) ?_
      refine Ol.nil ?_
      refine Cd.seq ?_
      refine Cd.region ?_
      refine Ol.p mvi ?_
      refine Ol.p addi ?_
      refine Ol.p asi ?_
      refine Ol.nil ?_
      refine Cd.region ?_
      refine Ol.p mvs ?_
      refine Ol.p (fdl fd_api_Func_1) ?_
      refine Ol.p (ld one_L_api_Block (Rd.blk (i := 2) rfl rfl)) ?_
      refine Ol.p mvi ?_
      refine Ol.p (ixn (ix := x) sl_L_api_Block (Som.slc hf.blocks (by omega))) ?_
      refine Ol.p (fdp fd_api_Block_1) ?_
      refine Ol.p (lds (es := b.term.cells) ag_api_Term hf.blocks rfl (fun q u hu => by rw [Nat.add_assoc, hf.cell hb (j := 1 + q) (by have := (List.getElem?_eq_some_iff.1 hu).1; simp [Tm.cells] at this; omega), Nat.add_comm]; simpa [RBlk.cells] using hu)) ?_
      refine Ol.x (sp_call en_ir_To (fun M w' hh => ir_To_ct (t := b.term))) ?_
      rintro _ _ ⟨_, rfl, A67, c67, rfl, rfl⟩
      refine Ol.x (apq (i := 1) (n := rest.length) (c := c - 1) (m := (toL b.term).length) (xs := intsN rest) (ys := ints (toL b.term)) sl_L_int zr_int rfl rfl hsz' (by omega) (by simp [intsN]) hrest (Src.row (i := 0) rfl (by simp [ints])) (ints_one _) (by unfold maxLen; omega) (by omega)) ?_
      rintro _ _ ⟨g', off2, c', cs', rfl, rfl, hq1, hq2, hq3⟩
      refine Ol.p ass ?_
      refine Ol.keep (.sub (.cons _ (List.Sublist.refl _))) ?_
      refine Ol.nil ?_
      have e1 : rest.length + (toL b.term).length = (rest ++ toN b.term).length := by rw [List.length_append, htoN2]
      have e2 : intsN rest ++ ints (toL b.term) = intsN (rest ++ toN b.term) := by rw [toN_ints hat]; simp [intsN]
      rw [e1] at hq2 ⊢
      rw [e2] at hq3
      refine ⟨3 * (f.blocks.length - cntB f.blocks.length (setB S x)) + (rest ++ toN b.term).length, ?_, setB S x, rest ++ toN b.term, g', off2, c', cs', rfl, hB2, ?_, ⟨hq1, hq2, hq3⟩, ⟨rfl, ?_, rfl, rfl, trivial⟩, ?_⟩
      · rw [List.length_append, List.length_cons]; omega
      · rw [List.length_append]; omega
      · rw [hcs]; rfl
      · rw [← boolsL_set]; rfl
    have hSx : S x = true := by simpa using h2
    refine Cd.skip ?_
    exact ⟨3 * (f.blocks.length - cntB f.blocks.length S) + rest.length, by simp only [List.length_cons]; omega, S, rest, g, off', c - 1, cs, rfl, hB.pop hSx, by omega, ⟨hsz', by omega, hrest⟩, ⟨rfl, rfl, rfl, rfl, trivial⟩, rfl⟩
  have htodo : todo = [] := by
    cases todo with
    | nil => rfl
    | cons x rest => simp only [decide_eq_false_iff_not, List.length_cons] at h; omega
  subst htodo
  have hfin := hB.fin hcl
  rw [htl] at hfin
  refine Cd.exit (id := 4) ?_
  refine Cd.seq ?_
  refine Cd.region ?_
  refine Ol.p mvi ?_
  refine Ol.p asi ?_
  refine Ol.p asb ?_
  refine Ol.nil ?_
  refine Cd.ret ⟨.tuple _, ret2 rfl rfl rfl, [], .nil, ?_, rfl⟩
  rw [hfin]; rfl
end
end Go.Proofs.YtcojedoejpcolaaGreat

/- The package ir: whether all that is read has a value; whether a function is right: walked. -/
namespace Go.Proofs.YtcojedoejpcolaaGreat
set_option linter.unusedVariables false
open Go Go.RowKit
set_option maxRecDepth 100000

theorem ixi {P : Program} {w0 : World} {B : Nat} {σ : Env} {L : List Res} {d : Option Nat} {ty T : TypeId} {pos : String} {af : Array Edge} {gd : Option (Nat × Bool)} {x y : Operand} {g ix n c e b : Nat} {k : IntKind} (hT : SlT P T e 201 b) (hx : ev σ x = .slice (some ⟨g, 0, none⟩) n c := by exact rfl) (hy : ev σ y = .int k (ix : Int) := by exact rfl) (h : ix < n := by omega) :
    Sd P w0 B ⟨d, .indexAddr T x y, ty, pos, af, gd⟩ σ L (.pointer (some ⟨g, ix * 201, none⟩)) := by
  have := ixo (d := d) (ty := ty) (pos := pos) (af := af) (gd := gd) (P := P) (w0 := w0) (B := B) (L := L) hT hx hy h
  rwa [Nat.zero_add] at this
theorem trn_any {P : Program} {w0 : World} {B : Nat} {σ : Env} {r : Res} {L : List Res} {o : Oper} {v : Value} {g e : Nat} {cs : Array Value} (h : Sp P w0 B o σ (r :: L) (det v (blk g (.cells cs e) :: L))) : Sp P w0 B o σ (r :: L) (Adds (fun v' R => v' = v ∧ ∃ g cs, R = [blk g (.cells cs e)]) L) := fun M w hh =>
  Goes.mono (h M w hh) fun v' w' ⟨L', h1, h2, h3⟩ => ⟨L', h1, [blk g (.cells cs e)], h3, h2, g, cs, rfl⟩
theorem encV_len (s : VS) : (encV s).toList.length = 201 := by simp [encV]
section
set_option maxHeartbeats 8000000 in
theorem ir_valued_ct {w : World} {f : RFun} (hf : FunAt w w.heap.size f) (hfit : Fit f) (hl : longF f = false) (hw : wholeF f = true) (hok : okEs f.terms = true) : Ct Tryz.prog 87 #[f.val] w (Is (.bool (valuedF f))) := by
  have htl : f.terms.length = f.blocks.length := by simp [RFun.terms]
  have hlong : 0 < f.blocks.length ∧ f.blocks.length ≤ 200 ∧ f.params.length ≤ 8 := by
    unfold longF at hl
    simp only [Bool.or_eq_false_iff, decide_eq_false_iff_not] at hl
    omega
  obtain ⟨h0, h200, hp8⟩ := hlong
  have hvar : ∀ n ∈ f.params, 1 ≤ n ∧ n ≤ 200 := fun n hn => by
    rw [whole_split, Bool.and_eq_true, Bool.and_eq_true, List.all_eq_true] at hw
    exact varB_iff.1 (hw.1.1 n hn)
  obtain ⟨n, hn⟩ : ∃ n, n = f.blocks.length := ⟨_, rfl⟩
  have hto : ∀ (a : Nat) (x : RBlk), f.blocks[a]? = some x → ∀ m ∈ toL x.term, 1 ≤ m ∧ m < (n : Int) := fun a x ha m hm => by
    have ht : f.terms[a]? = some x.term := by simp [RFun.terms, ha]
    have := okEs_at hok (a := a) (by rw [toAt_some ht]; exact hm)
    omega
  refine Ct.mk Tryz.func87 rfl rfl ?_
  refine Cd.seq ?_
  refine Cd.region ?_
  refine Ol.x bxg ?_
  rintro _ _ ⟨g1, rfl, rfl⟩
  refine Ol.p asb ?_
  refine Ol.nil ?_
  refine Cd.seq ?_
  refine Cd.region ?_
  refine Ol.p (fdl fd_api_Func_1) ?_
  refine Ol.p (ld one_L_api_Block (Rd.blk (i := 0) rfl rfl)) ?_
  refine Ol.p (lens sl_L_api_Block) ?_
  refine Ol.x (mks (n := f.blocks.length) (c := f.blocks.length) sl_L_ir_set zr_ir_set) ?_
  rintro _ _ ⟨gi, rfl, rfl⟩
  refine Ol.p ass ?_
  refine Ol.nil ?_
  refine Cd.unrow (fun cs hcs1 hcs2 => ?_)
  have hcs : cs = inA n fun _ _ => false := by
    rw [← made_inA, hn]
    apply Array.ext'
    rw [List.take_of_length_le (by simp [hcs1])] at hcs2
    rw [hcs2, List.take_of_length_le (by simp [madeCells, Value.cells])]
    rfl
  subst hcs
  rw [← hn]
  obtain ⟨LF, hLF⟩ : ∃ LF, LF = blk g1 (.cells f.cells.toArray 37) := ⟨_, rfl⟩
  refine Cd.mid (fun σ' L' => Has σ' [(1, .pointer (some ⟨g1, 0, none⟩)), (3, .slice (some ⟨gi, 0, none⟩) n n)] ∧ [blk gi (.cells (inA n fun _ _ => true) 145), LF] = L') ?_ ?_
  · refine Cd.seq ?_
    refine Cd.region ?_
    refine Ol.p mvs ?_
    refine Ol.p (lens sl_L_ir_set) ?_
    refine Ol.p mvi ?_
    refine Ol.nil ?_
    refine Cd.block ?_   -- 0
    refine Cd.loop (fun m σ L => ∃ k, m = n - k ∧ k ≤ n ∧ Has σ [(1, .pointer (some ⟨g1, 0, none⟩)), (3, .slice (some ⟨gi, 0, none⟩) n n), (25, .int .i64 n), (26, .int .i64 k)] ∧ [blk gi (.cells (inA n fun b _ => decide (b < k)) 145), LF] = L) (n := n) ⟨0, rfl, Nat.zero_le _, ⟨rfl, rfl, rfl, rfl, trivial⟩, by rw [hLF, inA_congr (J := fun _ _ => false) (fun b v _ _ => by simp)]⟩ ?_
    rintro _ σ L ⟨k, rfl, hk, hs, rfl⟩
    refine Cd.has hs ?_
    refine Cd.seq ?_
    refine Cd.region ?_
    refine Ol.p lsi ?_
    refine Ol.nil ?_
    refine Cd.seq ?_
    refine Cd.cond rfl (fun h => ?_) (fun h => ?_)   -- $27
    · have hlt : k < n := by
        simp only [decide_eq_true_eq] at h; omega
      refine Cd.skip ?_
      refine Cd.seq ?_
      refine Cd.block ?_   -- 1
      refine Cd.seq ?_
      refine Cd.region ?_
      refine Ol.p mvi ?_
      refine Ol.p asi ?_
      refine Ol.nil ?_
      refine Cd.region ?_
      refine Ol.p mvs ?_
      refine Ol.p mvi ?_
      refine Ol.s (cl en_ir_full (fun M w' hh => ir_full_ct)) ?_
      refine Ol.p (ixi (ix := k) sl_L_ir_set) ?_
      refine Ol.s (sta (k := k * 201) sz_ir_set (encV_size _) (encV_one _) (i := 0) rfl (by rw [inA_size]; have : (k + 1) * 201 ≤ n * 201 := Nat.mul_le_mul_right _ hlt; omega)) ?_
      refine Ol.nil ?_
      refine Cd.region ?_
      refine Ol.p addi ?_
      refine Ol.p mvi ?_
      refine Ol.nil ?_
      refine ⟨n - (k + 1), by omega, k + 1, rfl, by omega, ⟨rfl, rfl, rfl, rfl, trivial⟩, congrArg (fun cs => [blk gi (.cells cs 145), LF]) (Eq.symm ((inA_sta hlt).trans (inA_congr fun b v hb hv => ?_)))⟩
      unfold setI
      by_cases e : b = k
      · rw [if_pos e]; simp [e]
      · rw [if_neg e, decide_eq_decide]; omega
    have hk2 : k = n := by
      simp only [decide_eq_false_iff_not] at h; omega
    subst hk2
    refine Cd.exit (id := 0) ?_
    exact ⟨⟨rfl, rfl, trivial⟩, by rw [inA_congr (I := fun b _ => decide (b < k)) (J := fun _ _ => true) (fun b v hb _ => by simpa using hb)]⟩
  rintro σ' _ ⟨hs', rfl⟩
  refine Cd.has hs' ?_
  clear hs'
  refine Cd.seq ?_
  refine Cd.region ?_
  refine Ol.p mvs ?_
  refine Ol.p (bda (cs := encV fun _ => false) ar_ir_set zr_ir_set (hf := by rw [← zeroV]; rfl)) ?_
  refine Ol.p (ixi (ix := 0) sl_L_ir_set) ?_
  refine Ol.s (sta (k := 0 * 201) sz_ir_set (encV_size _) (encV_one _) (i := 0) rfl (by rw [inA_size]; have : (0 + 1) * 201 ≤ n * 201 := Nat.mul_le_mul_right _ (by omega); omega)) ?_
  refine Ol.nil ?_
  rw [show ((inA n fun _ _ => true).toList.take (0 * 201) ++ (encV fun _ => false).toList ++ (inA n fun _ _ => true).toList.drop (0 * 201 + 201)).toArray = inA n (setI (fun _ _ => true) 0 fun _ => false) from inA_sta (by omega)]
  refine Cd.mid (fun σ' L' => Has σ' [(1, .pointer (some ⟨g1, 0, none⟩)), (3, .slice (some ⟨gi, 0, none⟩) n n)] ∧ ∃ I, Val f I ∧ [blk gi (.cells (inA n I) 145), LF] = L') ?_ ?_
  · refine Cd.seq ?_
    rw [hLF]
    refine Cd.region ?_
    refine Ol.p (fdl fd_api_Func_0) ?_
    refine Ol.p (ld one_L_int (Rd.blk (i := 1) rfl rfl)) ?_
    refine Ol.p (lens sl_L_int) ?_
    refine Ol.p mvi ?_
    refine Ol.nil ?_
    refine Cd.block ?_   -- 2
    refine Cd.loop (fun m σ L => ∃ k s, m = f.params.length - k ∧ k ≤ f.params.length ∧ Has σ [(1, .pointer (some ⟨g1, 0, none⟩)), (3, .slice (some ⟨gi, 0, none⟩) n n), (38, .slice f.pA f.params.length f.pC), (39, .int .i64 f.params.length), (40, .int .i64 k)] ∧ [blk gi (.cells (inA n (setI (fun _ _ => true) 0 s)) 145), LF] = L ∧ ∀ v, s v = true ↔ ∃ p ∈ f.params.take k, p.toNat = v) (n := f.params.length) ⟨0, fun _ => false, rfl, Nat.zero_le _, ⟨rfl, rfl, rfl, rfl, rfl, trivial⟩, by rw [hLF]; rfl, by simp⟩ ?_
    rintro _ σ L ⟨k, s, rfl, hk, hs, rfl, hsv⟩
    refine Cd.has hs ?_
    refine Cd.seq ?_
    refine Cd.region ?_
    refine Ol.p lsi ?_
    refine Ol.nil ?_
    refine Cd.seq ?_
    refine Cd.cond rfl (fun h => ?_) (fun h => ?_)   -- $41
    · have hlt : k < f.params.length := by
        simp only [decide_eq_true_eq] at h; omega
      obtain ⟨p, hp⟩ : ∃ p, f.params[k]? = some p := ⟨_, List.getElem?_eq_getElem hlt⟩
      have hpr := hvar p (List.mem_of_getElem? hp)
      obtain ⟨m, rfl⟩ : ∃ m : Nat, p = (m : Int) := ⟨p.toNat, by omega⟩
      have hm : m < 201 := by omega
      refine Cd.skip ?_
      refine Cd.seq ?_
      refine Cd.block ?_   -- 3
      refine Cd.seq ?_
      refine Cd.region ?_
      refine Ol.p (ixn1 (ix := k) sl_L_int (Som.slc hf.params (by omega))) ?_
      refine Ol.p (ld one_int (Rd.slc hf.params (ints_at hp))) ?_
      refine Ol.p asi ?_
      refine Ol.nil ?_
      refine Cd.region ?_
      refine Ol.p mvs ?_
      refine Ol.p mvi ?_
      refine Ol.p (ixi (ix := 0) sl_L_ir_set) ?_
      refine Ol.p (ixl1 (ix := m) ar_ir_set) ?_
      refine Ol.s (sto (k := m) (.inr sz_bool) rfl rfl (i := 0) rfl (by rw [inA_size]; omega) rfl) ?_
      refine Ol.nil ?_
      refine Cd.region ?_
      refine Ol.p addi ?_
      refine Ol.p mvi ?_
      refine Ol.nil ?_
      have e : (inA n (setI (fun _ _ => true) 0 s)).setIfInBounds m (.bool true) = inA n (setI (fun _ _ => true) 0 (putV s m true)) := by
        have := inA_put (n := n) (b := 0) (v := m) (u := true) (I := setI (fun _ _ => true) 0 s) hm
        rw [Nat.zero_mul, Nat.zero_add] at this
        rw [this]
        refine inA_congr fun b v hb hv => ?_
        unfold setI
        by_cases e : b = 0 <;> simp [e]
      refine ⟨f.params.length - (k + 1), by omega, k + 1, putV s m true, rfl, by omega, ⟨rfl, rfl, rfl, rfl, rfl, trivial⟩, congrArg (fun cs => [blk gi (.cells cs 145), LF]) e.symm, fun v => ?_⟩
      rw [take_snoc_ hp]
      unfold putV
      by_cases e2 : v = m
      · rw [if_pos e2]
        simp only [true_iff]
        exact ⟨(m : Int), by simp, by simp [e2]⟩
      · rw [if_neg e2, hsv]
        constructor
        · rintro ⟨p, h1, h2⟩; exact ⟨p, by simp [h1], h2⟩
        · rintro ⟨p, h1, h2⟩
          rcases List.mem_append.1 h1 with h1 | h1
          · exact ⟨p, h1, h2⟩
          · have : p = (m : Int) := by simpa using h1
            subst this; simp at h2; omega
    have hk2 : k = f.params.length := by
      simp only [decide_eq_false_iff_not] at h; omega
    subst hk2
    rw [List.take_length] at hsv
    refine Cd.exit (id := 2) ?_
    refine ⟨⟨rfl, rfl, trivial⟩, setI (fun _ _ => true) 0 s, ⟨fun v hv => ?_, fun b v hv hb => ?_⟩, by rw [hLF]⟩
    · unfold setI; rw [if_pos rfl]; exact hsv v
    · unfold setI at hb
      by_cases e : b = 0
      · rw [if_pos e] at hb
        rw [e]
        refine .zero fun p hp e2 => ?_
        rw [(hsv v).2 ⟨p, hp, e2⟩] at hb; cases hb
      · rw [if_neg e] at hb; cases hb
  rintro σ' _ ⟨hs', I0, hV0, rfl⟩
  refine Cd.has hs' ?_
  clear hs'
  refine Cd.mid (fun σ' L' => Has σ' [(1, .pointer (some ⟨g1, 0, none⟩)), (3, .slice (some ⟨gi, 0, none⟩) n n)] ∧ ∃ I, (∀ b v, v < 201 → (I b v = false ↔ Bare f v b)) ∧ [blk gi (.cells (inA n I) 145), LF] = L') ?_ ?_
  · refine Cd.seq ?_
    refine Cd.region ?_
    refine Ol.p asb ?_
    refine Ol.nil ?_
    refine Cd.block ?_   -- 4
    refine Cd.loop (fun m σ L => ∃ (I : IV) (mv : Bool), m = muI n I + (if mv = true then 1 else 0) ∧ Val f I ∧ (mv = false → ∀ (a : Nat) (x : RBlk), f.blocks[a]? = some x → ∀ to : Nat, (to : Int) ∈ toL x.term → Stab I (outV x.ins (I a)) to) ∧ Has σ [(1, .pointer (some ⟨g1, 0, none⟩)), (3, .slice (some ⟨gi, 0, none⟩) n n), (7, .bool mv)] ∧ [blk gi (.cells (inA n I) 145), LF] = L) (n := muI n I0 + 1) ⟨I0, true, rfl, hV0, (fun h => by cases h), ⟨rfl, rfl, rfl, trivial⟩, rfl⟩ ?_
    rintro _ σ L ⟨I, mv, rfl, hV, hst, hs, rfl⟩
    refine Cd.has hs ?_
    refine Cd.seq ?_
    refine Cd.seq ?_
    refine Cd.region ?_
    refine Ol.p mvb ?_
    refine Ol.nil ?_
    refine Cd.cond rfl (fun h => ?_) (fun h => ?_)   -- $49
    · subst h
      refine Cd.skip ?_
      refine Cd.block ?_   -- 5
      refine Cd.seq ?_
      refine Cd.region ?_
      refine Ol.p asb ?_
      refine Ol.nil ?_
      refine Cd.seq ?_
      rw [hLF]
      refine Cd.region ?_
      refine Ol.p (fdl fd_api_Func_1) ?_
      refine Ol.p (ld one_L_api_Block (Rd.blk (i := 1) rfl rfl)) ?_
      refine Ol.p (lens sl_L_api_Block) ?_
      refine Ol.p mvi ?_
      refine Ol.nil ?_
      refine Cd.block ?_   -- 6
      refine Cd.loop (fun m σ L => ∃ (k : Nat) (J : IV) (mv : Bool), m = n - k ∧ k ≤ n ∧ Has σ [(1, .pointer (some ⟨g1, 0, none⟩)), (3, .slice (some ⟨gi, 0, none⟩) n n), (7, .bool mv), (51, .slice f.bA f.blocks.length f.bC), (52, .int .i64 n), (53, .int .i64 k)] ∧ [blk gi (.cells (inA n J) 145), LF] = L ∧ Val f J ∧ (mv = true → muI n J < muI n I) ∧
        (mv = false → J = I ∧ ∀ (a : Nat) (x : RBlk), a < k → f.blocks[a]? = some x → ∀ to : Nat, (to : Int) ∈ toL x.term → Stab I (outV x.ins (I a)) to)) (n := n) ⟨0, I, false, rfl, Nat.zero_le _, ⟨rfl, rfl, rfl, rfl, by rw [hn]; rfl, rfl, trivial⟩, by rw [hLF], hV, (fun h => by cases h), fun _ => ⟨rfl, fun a x ha => by omega⟩⟩ ?_
      clear hs
      rintro _ σ L ⟨k, J, mv, rfl, hk, hs, rfl, hVJ, hmt, hmf⟩
      refine Cd.has hs ?_
      refine Cd.seq ?_
      refine Cd.region ?_
      refine Ol.p lsi ?_
      refine Ol.nil ?_
      refine Cd.seq ?_
      refine Cd.cond rfl (fun h => ?_) (fun h => ?_)   -- $54
      · have hlt : k < n := by
          simp only [decide_eq_true_eq] at h; omega
        have hle : (k + 1) * 201 ≤ n * 201 := Nat.mul_le_mul_right _ hlt
        obtain ⟨b, hb⟩ : ∃ b, f.blocks[k]? = some b := ⟨_, List.getElem?_eq_getElem (by omega)⟩
        have hbm := List.mem_of_getElem? hb
        have hba := hf.blk hfit hbm
        have hbl := hba.len
        refine Cd.skip ?_
        refine Cd.seq ?_
        refine Cd.block ?_   -- 7
        refine Cd.seq ?_
        refine Cd.region ?_
        refine Ol.p mvi ?_
        refine Ol.p (ixn (ix := k) sl_L_api_Block (Som.slc hf.blocks (by omega))) ?_
        refine Ol.p (lds (es := b.cells) ag_api_Block hf.blocks b.len (fun j u hu => blk_cell hb hu)) ?_
        refine Ol.x (alc zr_api_Block) ?_
        rintro _ _ ⟨g9, rfl, rfl⟩
        refine Ol.p asi ?_
        refine Ol.s (stw sz_api_Block rfl b.one (i := 0) rfl rfl) ?_
        refine Ol.nil ?_
        refine Cd.seq ?_
        refine Cd.region ?_
        refine Ol.p mvs ?_
        refine Ol.p mvi ?_
        refine Ol.p (ixi (ix := k) sl_L_ir_set) ?_
        refine Ol.p (ldp (k := k * 201) (vs := encV (J k)) ag_ir_set (i := 1) rfl (encV_size _) (inA_load hlt)) ?_
        refine Ol.x (alc zr_ir_set) ?_
        rintro _ _ ⟨g10, rfl, rfl⟩
        refine Ol.s (stw sz_ir_set (encV_size _) (encV_one _) (i := 0) rfl rfl) ?_
        refine Ol.nil ?_
        refine Cd.mid (fun σ' L' => Has σ' [(1, .pointer (some ⟨g1, 0, none⟩)), (3, .slice (some ⟨gi, 0, none⟩) n n), (7, .bool mv), (9, .pointer (some ⟨g9, 0, none⟩)), (10, .pointer (some ⟨g10, 0, none⟩)), (51, .slice f.bA f.blocks.length f.bC), (52, .int .i64 n), (53, .int .i64 k)] ∧ [blk g10 (.cells (encV (outV b.ins (J k))) 145), blk g9 (.cells b.cells.toArray 34), blk gi (.cells (inA n J) 145), LF] = L') ?_ ?_
        · refine Cd.seq ?_
          refine Cd.region ?_
          refine Ol.p (fdl fd_api_Block_0) ?_
          refine Ol.p (ld one_L_api_Ins (Rd.blk (i := 1) rfl rfl)) ?_
          refine Ol.p (lens sl_L_api_Ins) ?_
          refine Ol.p mvi ?_
          refine Ol.nil ?_
          refine Cd.block ?_   -- 8
          refine Cd.loop (fun m σ L => ∃ j, m = b.ins.length - j ∧ j ≤ b.ins.length ∧ Has σ [(1, .pointer (some ⟨g1, 0, none⟩)), (3, .slice (some ⟨gi, 0, none⟩) n n), (7, .bool mv), (9, .pointer (some ⟨g9, 0, none⟩)), (10, .pointer (some ⟨g10, 0, none⟩)), (51, .slice f.bA f.blocks.length f.bC), (52, .int .i64 n), (53, .int .i64 k), (63, .slice b.iA b.ins.length b.iC), (64, .int .i64 b.ins.length), (65, .int .i64 j)] ∧ [blk g10 (.cells (encV (outV (b.ins.take j) (J k))) 145), blk g9 (.cells b.cells.toArray 34), blk gi (.cells (inA n J) 145), LF] = L) (n := b.ins.length) ⟨0, rfl, Nat.zero_le _, ⟨rfl, rfl, rfl, rfl, rfl, rfl, rfl, rfl, rfl, rfl, rfl, trivial⟩, rfl⟩ ?_
          clear hs
          rintro _ σ L ⟨j, rfl, hj, hs, rfl⟩
          refine Cd.has hs ?_
          refine Cd.seq ?_
          refine Cd.region ?_
          refine Ol.p lsi ?_
          refine Ol.nil ?_
          refine Cd.seq ?_
          refine Cd.cond rfl (fun h => ?_) (fun h => ?_)   -- $66
          · have hjl : j < b.ins.length := by
              simp only [decide_eq_true_eq] at h; omega
            obtain ⟨i, hi⟩ : ∃ i, b.ins[j]? = some i := ⟨_, List.getElem?_eq_getElem hjl⟩
            have hia := hba.all i (List.mem_of_getElem? hi)
            have hdef := defI_range i
            obtain ⟨dn, hdn⟩ : ∃ dn : Nat, defI i = (dn : Int) := ⟨(defI i).toNat, by omega⟩
            have hdn2 : dn < 201 := by omega
            refine Cd.skip ?_
            refine Cd.seq ?_
            refine Cd.block ?_   -- 9
            refine Cd.seq ?_
            refine Cd.region ?_
            refine Ol.p (ixn sl_L_api_Ins (Som.slc hba.ins (by omega))) ?_
            refine Ol.p (lds (es := i.cells) ag_api_Ins hba.ins i.len (fun j u hu => ins_cell hi hu)) ?_
            refine Ol.x (alc zr_api_Ins) ?_
            rintro _ _ ⟨g12, rfl, rfl⟩
            refine Ol.s (stw sz_api_Ins rfl i.one (i := 0) rfl rfl) ?_
            refine Ol.nil ?_
            refine Cd.region ?_
            refine Ol.p (ldw ag_api_Ins (i := 0) rfl rfl) ?_
            refine Ol.s (cl en_ir_Defines (fun M w' hh => ir_Defines_ct (hia.now hh))) ?_
            refine Ol.p (ixl1 (ix := dn) ar_ir_set (hy := congrArg (Value.int .i64) hdn)) ?_
            refine Ol.s (sto (k := dn) (.inr sz_bool) rfl rfl (i := 1) rfl (by rw [encV_size]; exact hdn2) rfl) ?_
            refine Ol.keep (.sub (.cons _ (List.Sublist.refl _))) ?_
            refine Ol.nil ?_
            refine Cd.region ?_
            refine Ol.p addi ?_
            refine Ol.p mvi ?_
            refine Ol.nil ?_
            refine ⟨b.ins.length - (j + 1), by omega, j + 1, rfl, by omega, ⟨rfl, rfl, rfl, rfl, rfl, rfl, rfl, rfl, rfl, rfl, rfl, trivial⟩, ?_⟩
            rw [outV_snoc hi, hdn, Int.toNat_natCast]
            exact congrArg (fun cs => [blk g10 (.cells cs 145), blk g9 (.cells b.cells.toArray 34), blk gi (.cells (inA n J) 145), LF]) encV_set.symm
          have hj2 : j = b.ins.length := by
            simp only [decide_eq_false_iff_not] at h; omega
          subst hj2
          rw [List.take_length]
          refine Cd.exit (id := 8) ?_
          exact ⟨⟨rfl, rfl, rfl, rfl, rfl, rfl, rfl, rfl, trivial⟩, rfl⟩
        rintro σ' _ ⟨hs', rfl⟩
        refine Cd.has hs' ?_
        clear hs'
        obtain ⟨O, hO⟩ : ∃ O, O = outV b.ins (J k) := ⟨_, rfl⟩
        have hOut := hVJ.out (a := k) (x := b)
        rw [← hO] at hOut ⊢
        refine Cd.seq ?_
        refine Cd.region ?_
        refine Ol.p (fdl fd_api_Block_1) ?_
        refine Ol.p (ldp (k := 0 + 1) (vs := b.term.cells.toArray) ag_api_Term (i := 1) rfl rfl (fun j u hu => by rw [Nat.zero_add, Nat.add_comm]; simpa [RBlk.cells] using hu)) ?_
        refine Ol.x (sp_call en_ir_To (fun M w' hh => ir_To_ct (t := b.term))) ?_
        rintro _ _ ⟨_, rfl, A75, c75, rfl, rfl⟩
        refine Ol.p (lens sl_L_int) ?_
        refine Ol.p mvi ?_
        refine Ol.nil ?_
        have htb := hto k b hb
        obtain ⟨to, hto2⟩ : ∃ to, to = toL b.term := ⟨_, rfl⟩
        have htoL := toL_len b.term
        rw [← hto2] at htoL htb ⊢
        refine Cd.block ?_   -- 10
        refine Cd.loop (fun m σ L => ∃ (j : Nat) (K : IV) (mv2 : Bool), m = to.length - j ∧ j ≤ to.length ∧ Has σ [(1, .pointer (some ⟨g1, 0, none⟩)), (3, .slice (some ⟨gi, 0, none⟩) n n), (7, .bool mv2), (10, .pointer (some ⟨g10, 0, none⟩)), (51, .slice f.bA f.blocks.length f.bC), (52, .int .i64 n), (53, .int .i64 k), (75, .slice A75 to.length c75), (76, .int .i64 to.length), (77, .int .i64 j)] ∧
          [row (.slice A75 to.length c75) 3 1 to.length (ints to), blk g10 (.cells (encV O) 145), blk g9 (.cells b.cells.toArray 34), blk gi (.cells (inA n K) 145), LF] = L ∧ Val f K ∧ (mv2 = true → muI n K < muI n I) ∧ (mv2 = false → mv = false ∧ K = J ∧ ∀ m ∈ to.take j, Stab J O m.toNat)) (n := to.length) ⟨0, J, mv, rfl, Nat.zero_le _, ⟨rfl, rfl, rfl, rfl, rfl, rfl, rfl, rfl, rfl, rfl, trivial⟩, rfl, hVJ, hmt, fun h => ⟨h, rfl, by simp⟩⟩ ?_
        clear hs
        rintro _ σ L ⟨j, K, mv2, rfl, hj, hs, rfl, hVK, hkt, hkf⟩
        refine Cd.has hs ?_
        refine Cd.seq ?_
        refine Cd.region ?_
        refine Ol.p lsi ?_
        refine Ol.nil ?_
        refine Cd.seq ?_
        refine Cd.cond rfl (fun h => ?_) (fun h => ?_)   -- $78
        · have hjl : j < to.length := by
            simp only [decide_eq_true_eq] at h; omega
          obtain ⟨m, hm⟩ : ∃ m, to[j]? = some m := ⟨_, List.getElem?_eq_getElem hjl⟩
          have hmm := List.mem_of_getElem? hm
          have hmr := htb m hmm
          obtain ⟨q, rfl⟩ : ∃ q : Nat, m = (q : Int) := ⟨m.toNat, by omega⟩
          have hqn : q < n := by omega
          have hqle : (q + 1) * 201 ≤ n * 201 := Nat.mul_le_mul_right _ hqn
          refine Cd.skip ?_
          refine Cd.mid (fun σ' L' => ∃ (K : IV) (mv2 : Bool), Has σ' [(1, .pointer (some ⟨g1, 0, none⟩)), (3, .slice (some ⟨gi, 0, none⟩) n n), (7, .bool mv2), (10, .pointer (some ⟨g10, 0, none⟩)), (51, .slice f.bA f.blocks.length f.bC), (52, .int .i64 n), (53, .int .i64 k), (75, .slice A75 to.length c75), (76, .int .i64 to.length), (77, .int .i64 j)] ∧
            [row (.slice A75 to.length c75) 3 1 to.length (ints to), blk g10 (.cells (encV O) 145), blk g9 (.cells b.cells.toArray 34), blk gi (.cells (inA n K) 145), LF] = L' ∧ Val f K ∧ (mv2 = true → muI n K < muI n I) ∧ (mv2 = false → mv = false ∧ K = J ∧ ∀ m ∈ to.take (j + 1), Stab J O m.toNat)) ?_ ?_
          · refine Cd.block ?_   -- 11
            refine Cd.seq ?_
            refine Cd.region ?_
            refine Ol.p (ixn1 (ix := j) sl_L_int (Som.row (i := 0) rfl (by omega))) ?_
            refine Ol.p (ld one_int (Rd.row (i := 0) rfl (ints_at hm))) ?_
            refine Ol.p asi ?_
            refine Ol.nil ?_
            refine Cd.seq ?_
            obtain ⟨nx, hnx⟩ : ∃ nx : VS, nx = fun v => K q v && O v := ⟨_, rfl⟩
            refine Cd.draw mixed 7 (fun opNo => match opNo with | 5 => some (Is (.agg (encV nx))) | 6 => some (NewPv (.cells (Array.replicate 201 (.bool false)) 145)) | _ => none) (fun _ => []) (by kernel_rfl) (by intro q V h; split at h <;> cases h; exact ⟨_, [], rfl, rfl⟩; exact ⟨_, _, 0, rfl, rfl⟩) (fun u hu => ?_)
            refine Wk.p mvs ?_
            refine Wk.p mvi ?_
            refine Wk.p (ixi (ix := q) sl_L_ir_set) ?_
            refine Wk.p (ldp (k := q * 201) (vs := encV (K q)) ag_ir_set (i := 3) rfl (encV_size _) (inA_load hqn)) ?_
            refine Wk.p (ldw ag_ir_set (i := 1) rfl (encV_size _)) ?_
            refine Wk.x (V := Is (.agg (encV nx))) hu (by rw [hnx]; exact sp_call en_ir_set_meet (fun M w' hh => ir_set_meet_ct)) ?_
            rintro _ _ hu5 ⟨rfl, rfl⟩
            refine Wk.x (V := NewPv (.cells (Array.replicate 201 (.bool false)) 145)) hu (NewP.adds (alc zr_ir_set)) ?_
            rintro _ _ hu6 ⟨g15, rfl, rfl⟩
            refine Wk.nil ?_
            rw [needs_cons hu6, needs_cons hu5, needs_none]
            refine Ol.s (stw sz_ir_set (encV_size _) (encV_one _) (i := 0) rfl rfl) ?_
            refine Ol.nil ?_
            refine Cd.seq ?_
            refine Cd.draw mixed 6 (fun _ => none) (fun _ => []) (by kernel_rfl) (fun _ _ h => by cases h) (fun u hu => ?_)
            refine Wk.p (ldw ag_ir_set (i := 0) rfl (encV_size _)) ?_
            refine Wk.p mvs ?_
            refine Wk.p mvi ?_
            refine Wk.p (ixi (ix := q) sl_L_ir_set) ?_
            refine Wk.p (ldp (k := q * 201) (vs := encV (K q)) ag_ir_set (i := 4) rfl (encV_size _) (inA_load hqn)) ?_
            refine Wk.p (nea cm_ir_set (encV_size _) (encV_size _) encV_tell (sameV_iff (s := nx) (t := K q))) ?_
            refine Wk.nil ?_
            refine Ol.nil ?_
            have hle2 : ∀ v, v < 201 → nx v = true → K q v = true := fun v _ h => by
              rw [hnx] at h
              exact (Bool.and_eq_true_iff.1 h).1
            refine Cd.cond rfl (fun h2 => ?_) (fun h2 => ?_)   -- $92
            · have hns : sameV nx (K q) = false := by simpa using h2
              have hmu : muI n (setI K q nx) < muI n K := by
                refine muI_set hqn ?_
                unfold sameV at hns
                rw [List.all_eq_false] at hns
                obtain ⟨v, hv, h3⟩ := hns
                have hv : v < 201 := by simpa using hv
                have h3 : nx v ≠ K q v := by simpa using h3
                have h4 := hle2 v hv
                cases h5 : nx v with
                | true => rw [h5] at h3 h4; exact absurd (h4 rfl).symm h3
                | false =>
                  cases h6 : K q v with
                  | false => rw [h5, h6] at h3; exact absurd rfl h3
                  | true => exact cntB_lt hle2 hv h5 h6
              refine Cd.region ?_
              refine Ol.p mvs ?_
              refine Ol.p mvi ?_
              refine Ol.p (ldw ag_ir_set (i := 0) rfl (encV_size _)) ?_
              refine Ol.p (ixi (ix := q) sl_L_ir_set) ?_
              refine Ol.s (sta (k := q * 201) sz_ir_set (encV_size _) (encV_one _) (i := 4) rfl (by rw [inA_size]; omega)) ?_
              refine Ol.p asb ?_
              refine Ol.keep (.sub (.cons _ (List.Sublist.refl _))) ?_
              refine Ol.nil ?_
              refine ⟨setI K q nx, true, ⟨rfl, rfl, rfl, rfl, rfl, rfl, rfl, rfl, rfl, rfl, trivial⟩, congrArg (fun cs => [row (.slice A75 to.length c75) 3 1 to.length (ints to), blk g10 (.cells (encV O) 145), blk g9 (.cells b.cells.toArray 34), blk gi (.cells cs 145), LF]) (inA_sta hqn).symm, ?_, fun _ => ?_, fun h => by cases h⟩
              · rw [hnx]
                exact hVK.turn hb (by rw [← hto2]; exact hmm) (by omega) hOut
              · cases hmv : mv2 with
                | true => have := hkt hmv; omega
                | false =>
                  obtain ⟨h7, h8, _⟩ := hkf hmv
                  have h9 := (hmf h7).1
                  rw [h8, h9] at hmu
                  rw [h8, h9]; exact hmu
            have hss : sameV nx (K q) = true := by simpa using h2
            refine Cd.keep (.sub (.cons _ (List.Sublist.refl _))) ?_
            refine Cd.skip ?_
            refine ⟨K, mv2, ⟨rfl, rfl, rfl, rfl, rfl, rfl, rfl, rfl, rfl, rfl, trivial⟩, rfl, hVK, hkt, fun h => ?_⟩
            obtain ⟨h7, h8, h9⟩ := hkf h
            refine ⟨h7, h8, fun m hm2 => ?_⟩
            rw [take_snoc_ hm] at hm2
            rcases List.mem_append.1 hm2 with h3 | h3
            · exact h9 m h3
            · have e : m = (q : Int) := by simpa using h3
              subst e
              rw [Int.toNat_natCast]
              intro v hv hJ
              have h10 := sameV_at hss hv
              rw [hnx] at h10
              rw [h8] at h10
              have h10 : (J q v && O v) = J q v := h10
              rw [hJ, Bool.true_and] at h10
              exact h10
          rintro σ' _ ⟨K, mv2, hs', rfl, hVK, hkt, hkf⟩
          refine Cd.has hs' ?_
          refine Cd.region ?_
          refine Ol.p addi ?_
          refine Ol.p mvi ?_
          refine Ol.nil ?_
          exact ⟨to.length - (j + 1), by omega, j + 1, K, mv2, rfl, by omega, ⟨rfl, rfl, rfl, rfl, rfl, rfl, rfl, rfl, rfl, rfl, trivial⟩, rfl, hVK, hkt, hkf⟩
        have hj2 : j = to.length := by
          simp only [decide_eq_false_iff_not] at h; omega
        subst hj2
        rw [List.take_length] at hkf
        refine Cd.exit (id := 10) ?_
        refine Cd.keep (.sub (.cons _ (.cons _ (.cons _ (List.Sublist.refl _))))) ?_
        refine Cd.region ?_
        refine Ol.p addi ?_
        refine Ol.p mvi ?_
        refine Ol.nil ?_
        refine ⟨n - (k + 1), by omega, k + 1, K, mv2, rfl, by omega, ⟨rfl, rfl, rfl, rfl, rfl, rfl, trivial⟩, rfl, hVK, hkt, fun h => ?_⟩
        obtain ⟨h7, h8, h9⟩ := hkf h
        obtain ⟨h10, h11⟩ := hmf h7
        refine ⟨h8.trans h10, fun a x ha hx t ht => ?_⟩
        by_cases e : a = k
        · subst e
          rw [hb] at hx
          cases hx
          have := h9 (t : Int) (by rw [hto2]; exact ht)
          rw [hO, h10, Int.toNat_natCast] at this
          exact this
        · exact h11 a x (by omega) hx t ht
      have hk2 : k = n := by
        simp only [decide_eq_false_iff_not] at h; omega
      subst hk2
      refine Cd.exit (id := 6) ?_
      refine ⟨muI k J + (if mv = true then 1 else 0), ?_, J, mv, rfl, hVJ, fun h a x hx t ht => ?_, ⟨rfl, rfl, rfl, trivial⟩, by rw [hLF]⟩
      · cases hmv : mv with
        | true => have := hmt hmv; simp only [if_true]; omega
        | false => have := (hmf hmv).1; rw [this]; simp
      · obtain ⟨h10, h11⟩ := hmf h
        rw [h10]
        exact h11 a x (by rw [hn]; exact (List.getElem?_eq_some_iff.1 hx).1) hx t ht
    refine Cd.exit (id := 4) ?_
    exact ⟨⟨rfl, rfl, trivial⟩, I, fun b v hv => hV.fin (hst h) hv, rfl⟩
  rintro σ' _ ⟨hs', I, hI, rfl⟩
  refine Cd.has hs' ?_
  clear hs'
  have hval := valued_of hI
  refine Cd.seq ?_
  refine Cd.seq ?_
  rw [hLF]
  refine Cd.region ?_
  refine Ol.p (fdl fd_api_Func_1) ?_
  refine Ol.p (ld one_L_api_Block (Rd.blk (i := 1) rfl rfl)) ?_
  refine Ol.p (lens sl_L_api_Block) ?_
  refine Ol.p mvi ?_
  refine Ol.nil ?_
  refine Cd.block ?_   -- 12
  refine Cd.loop (fun m σ L => ∃ k, m = n - k ∧ k ≤ n ∧ Has σ [(3, .slice (some ⟨gi, 0, none⟩) n n), (100, .slice f.bA f.blocks.length f.bC), (101, .int .i64 n), (102, .int .i64 k)] ∧ [blk gi (.cells (inA n I) 145), LF] = L ∧ ∀ (b : Nat) (x : RBlk), b < k → f.blocks[b]? = some x → okPast x.ins x.term (I b) = true) (n := n) ⟨0, rfl, Nat.zero_le _, ⟨rfl, rfl, by rw [hn]; rfl, rfl, trivial⟩, by rw [hLF], fun b x hb => by omega⟩ ?_
  rintro _ σ L ⟨k, rfl, hk, hs, rfl, hall⟩
  refine Cd.has hs ?_
  refine Cd.seq ?_
  refine Cd.region ?_
  refine Ol.p lsi ?_
  refine Ol.nil ?_
  refine Cd.seq ?_
  refine Cd.cond rfl (fun h => ?_) (fun h => ?_)   -- $103
  · have hlt : k < n := by
      simp only [decide_eq_true_eq] at h; omega
    obtain ⟨b, hb⟩ : ∃ b, f.blocks[k]? = some b := ⟨_, List.getElem?_eq_getElem (by omega)⟩
    have hba := hf.blk hfit (List.mem_of_getElem? hb)
    refine Cd.skip ?_
    refine Cd.seq ?_
    refine Cd.block ?_   -- 13
    refine Cd.seq ?_
    refine Cd.region ?_
    refine Ol.p mvi ?_
    refine Ol.p (ixn (ix := k) sl_L_api_Block (Som.slc hf.blocks (by omega))) ?_
    refine Ol.p (lds (es := b.cells) ag_api_Block hf.blocks b.len (fun j u hu => blk_cell hb hu)) ?_
    refine Ol.x (alc zr_api_Block) ?_
    rintro _ _ ⟨g17, rfl, rfl⟩
    refine Ol.p asi ?_
    refine Ol.s (stw sz_api_Block rfl b.one (i := 0) rfl rfl) ?_
    refine Ol.nil ?_
    refine Cd.seq ?_
    refine Cd.drawT (L0 := [blk g17 (.cells b.cells.toArray 34), blk gi (.cells (inA n I) 145), LF]) mixed 11 (fun opNo => match opNo with | 5 => some (fun v R => ∃ s', v = .tuple #[.agg (encV s'), .bool (okPast b.ins b.term (I k))] ∧ R = []) | 9 => some (NewPv (.cells (Array.replicate 201 (.bool false)) 145)) | 10 => some (fun v R => v = undef ∧ ∃ g cs, R = [blk g (.cells cs 145)]) | _ => none) (fun opNo => match opNo with | 10 => [9] | _ => []) (fun opNo => match opNo with | 10 => some 9 | _ => none) [] (fun _ => []) (by kernel_rfl) (.refl _) (by intro c hc; cases hc) (by intro q V h; split at h <;> cases h; exact ⟨_, _, fun _ => false, rfl, rfl⟩; exact ⟨_, _, 0, rfl, rfl⟩; exact ⟨_, _, rfl, 0, #[], rfl⟩) (fun u hu hu0 => ?_)
    refine WkT.p mvs ?_
    refine WkT.p mvi ?_
    refine WkT.p (ixi (ix := k) sl_L_ir_set) ?_
    refine WkT.p (ldp (k := k * 201) (vs := encV (I k)) ag_ir_set (i := 1) rfl (encV_size _) (inA_load hlt)) ?_
    refine WkT.p (ldw ag_api_Block (i := 0) rfl rfl) ?_
    refine WkT.xn (V := fun v R => ∃ s', v = .tuple #[.agg (encV s'), .bool (okPast b.ins b.term (I k))] ∧ R = []) (l := []) (l2 := []) hu rfl rfl rfl (by rw [needs_none]; exact (sp_call en_ir_set_past (fun M w' hh => ir_set_past_ct (s := I k) (hba.now hh)))) ?_
    rintro _ _ hu5 ⟨s5, rfl, rfl⟩
    refine WkT.p mvt ?_
    refine WkT.p extv ?_
    refine WkT.p extv ?_
    refine WkT.xn (V := NewPv (.cells (Array.replicate 201 (.bool false)) 145)) (l := []) (l2 := []) hu rfl rfl rfl (by rw [needs_none]; exact (NewP.adds (alc zr_ir_set))) ?_
    rintro _ _ hu9 ⟨g18, rfl, rfl⟩
    refine WkT.xn (V := fun v R => v = undef ∧ ∃ g cs, R = [blk g (.cells cs 145)]) (l := [9]) (l2 := []) hu rfl rfl rfl (by rw [needs_cons hu9, needs_none]; exact (trn_any (stw sz_ir_set (encV_size _) (encV_one _) (i := 0) rfl rfl))) ?_
    rintro _ _ hu10 ⟨rfl, g18b, cs18, rfl⟩
    refine WkT.nil ?_
    change Ol _ _ _ _ _ (needs u [10, 5] _)
    rw [needs_cons hu10, needs_cons hu5, needs_none]
    refine Ol.p asb ?_
    refine Ol.nil ?_
    refine Cd.seq ?_
    refine Cd.region ?_
    refine Ol.p mvb ?_
    refine Ol.p noti ?_
    refine Ol.nil ?_
    refine Cd.cond rfl (fun h2 => ?_) (fun h2 => ?_)   -- $117
    · have h3 : okPast b.ins b.term (I k) = false := by simpa using h2
      refine Cd.seq ?_
      refine Cd.region ?_
      refine Ol.p asb ?_
      refine Ol.nil ?_
      refine Cd.ret ⟨.bool _, ret1 rfl rfl, [], .nil, ?_, rfl⟩
      have : valuedF f = false := by
        rw [hval, List.all_eq_false]
        refine ⟨k, by simp; omega, ?_⟩
        rw [hb]
        simp [h3]
      rw [this]
    have h3 : okPast b.ins b.term (I k) = true := by simpa using h2
    refine Cd.keep (.sub (.cons _ (.cons _ (List.Sublist.refl _)))) ?_
    refine Cd.skip ?_
    refine Cd.region ?_
    refine Ol.p addi ?_
    refine Ol.p mvi ?_
    refine Ol.nil ?_
    refine ⟨n - (k + 1), by omega, k + 1, rfl, by omega, ⟨rfl, rfl, rfl, rfl, trivial⟩, rfl, fun c x hc hx => ?_⟩
    by_cases e : c = k
    · subst e
      rw [hb] at hx; cases hx
      exact h3
    · exact hall c x (by omega) hx
  have hk2 : k = n := by
    simp only [decide_eq_false_iff_not] at h; omega
  subst hk2
  refine Cd.exit (id := 12) ?_
  refine Cd.seq ?_
  refine Cd.region ?_
  refine Ol.p asb ?_
  refine Ol.nil ?_
  refine Cd.ret ⟨.bool _, ret1 rfl rfl, [], .nil, ?_, rfl⟩
  have : valuedF f = true := by
    rw [hval, List.all_eq_true]
    intro b hb
    have hb : b < f.blocks.length := by simpa using hb
    have h3 := hall b _ (by omega) (List.getElem?_eq_getElem hb)
    rw [List.getElem?_eq_getElem hb]
    exact h3
  rw [this]
end
end Go.Proofs.YtcojedoejpcolaaGreat

/- The package ir: whether a function is right, walked. -/
namespace Go.Proofs.YtcojedoejpcolaaGreat
set_option linter.unusedVariables false
open Go Go.RowKit
set_option maxRecDepth 100000

noncomputable def rightF (f : RFun) : Int := bif longF f then 3 else bif !wholeF f then 2 else bif !okEs f.terms || decide ((orderF f.terms).length < f.blocks.length) then 9 else bif !valuedF f then 8 else 0
theorem rightF_iff {f : RFun} : rightF f = 0 ↔ longF f = false ∧ wholeF f = true ∧ okEs f.terms = true ∧ f.blocks.length ≤ (orderF f.terms).length ∧ valuedF f = true := by
  unfold rightF
  cases longF f <;> cases wholeF f <;> cases okEs f.terms <;> cases valuedF f <;> cases h : decide ((orderF f.terms).length < f.blocks.length) <;> simp_all
theorem long_parts {f : RFun} (h : longF f = false) : 0 < f.blocks.length ∧ f.blocks.length ≤ 200 ∧ f.params.length ≤ 8 ∧ ∀ b ∈ f.blocks, b.ins.length ≤ 64 := by
  unfold longF at h
  simp only [Bool.or_eq_false_iff, decide_eq_false_iff_not, List.any_eq_false] at h
  exact ⟨by omega, by omega, by omega, fun b hb => by have := h.2 b hb; simp at this; omega⟩
section
set_option maxHeartbeats 1000000 in
theorem ir_Right_ct {w : World} {f : RFun} (hf : FunAt w w.heap.size f) (hfit : Fit f) : Ct Tryz.prog 46 #[f.val] w (Is (.int .i64 (rightF f))) := by
  refine Ct.mk Tryz.func46 rfl rfl ?_
  refine Cd.seq ?_
  refine Cd.region ?_
  refine Ol.x bxg ?_
  rintro _ _ ⟨g1, rfl, rfl⟩
  refine Ol.p asi ?_
  refine Ol.nil ?_
  refine Cd.seq ?_
  refine Cd.seq ?_
  refine Cd.region ?_
  refine Ol.p (ldw ag_api_Func (i := 0) rfl rfl) ?_
  refine Ol.s (cl en_ir_long (fun M w' hh => ir_long_ct (hf.now hh) hfit)) ?_
  refine Ol.nil ?_
  refine Cd.cond rfl (fun hl => ?_) (fun hl => ?_)   -- $6
  · refine Cd.seq ?_
    refine Cd.region ?_
    refine Ol.p asi ?_
    refine Ol.nil ?_
    exact Cd.ret ⟨.int .i64 _, ret1 rfl rfl, [], .nil, by unfold rightF; rw [hl]; rfl, rfl⟩
  obtain ⟨h0, h200, _, _⟩ := long_parts hl
  refine Cd.skip ?_
  refine Cd.seq ?_
  refine Cd.seq ?_
  refine Cd.region ?_
  refine Ol.p (ldw ag_api_Func (i := 0) rfl rfl) ?_
  refine Ol.s (cl en_ir_whole (fun M w' hh => ir_whole_ct (hf.now hh) hfit)) ?_
  refine Ol.p noti ?_
  refine Ol.nil ?_
  refine Cd.cond rfl (fun hw => ?_) (fun hw => ?_)   -- $9
  · refine Cd.seq ?_
    refine Cd.region ?_
    refine Ol.p asi ?_
    refine Ol.nil ?_
    exact Cd.ret ⟨.int .i64 _, ret1 rfl rfl, [], .nil, by unfold rightF; rw [hl, hw]; rfl, rfl⟩
  have hwt : wholeF f = true := by simpa using hw
  have e1 : rightF f = bif !okEs f.terms || decide ((orderF f.terms).length < f.blocks.length) then 9 else bif !valuedF f then 8 else 0 := by unfold rightF; rw [hl, hw]; rfl
  refine Cd.skip ?_
  refine Cd.seq ?_
  cases hok : okEs f.terms with
  | false =>
    refine Cd.seq ?_
    refine Cd.region ?_
    refine Ol.p (ldw ag_api_Func (i := 0) rfl rfl) ?_
    refine Ol.s (cl en_ir_reach (fun M w' hh => ir_reach_ct (hf.now hh) hfit h0 h200)) ?_
    refine Ol.p (mv (by rw [hok])) ?_
    refine Ol.p extv ?_
    refine Ol.p extv ?_
    refine Ol.p asi ?_
    refine Ol.p asb ?_
    refine Ol.nil ?_
    refine Cd.seq ?_
    refine Cd.region ?_
    refine Ol.p mvb ?_
    refine Ol.p noti ?_
    refine Ol.p mvb ?_
    refine Ol.gn rfl ?_
    refine Ol.gn rfl ?_
    refine Ol.gn rfl ?_
    refine Ol.gn rfl ?_
    refine Ol.gn rfl ?_
    refine Ol.p (pkTb rfl) ?_
    refine Ol.nil ?_
    refine Cd.cond rfl (fun h => ?_) (fun h => by cases h)   -- $23
    refine Cd.seq ?_
    refine Cd.region ?_
    refine Ol.p asi ?_
    refine Ol.nil ?_
    exact Cd.ret ⟨.int .i64 _, ret1 rfl rfl, [], .nil, by rw [e1, hok]; rfl, rfl⟩
  | true =>
    have e2 : decide (((orderF f.terms).length : Int) < (f.blocks.length : Int)) = decide ((orderF f.terms).length < f.blocks.length) := by rw [decide_eq_decide]; omega
    refine Cd.seq ?_
    refine Cd.region ?_
    refine Ol.p (ldw ag_api_Func (i := 0) rfl rfl) ?_
    refine Ol.s (cl en_ir_reach (fun M w' hh => ir_reach_ct (hf.now hh) hfit h0 h200)) ?_
    refine Ol.p (mv (by rw [hok])) ?_
    refine Ol.p extv ?_
    refine Ol.p extv ?_
    refine Ol.p asi ?_
    refine Ol.p asb ?_
    refine Ol.nil ?_
    refine Cd.seq ?_
    refine Cd.region ?_
    refine Ol.p mvb ?_
    refine Ol.p noti ?_
    refine Ol.p mvb ?_
    refine Ol.gp rfl mvi ?_
    refine Ol.gp rfl (fdl fd_api_Func_1) ?_
    refine Ol.gp rfl (ld one_L_api_Block (Rd.blk (i := 0) rfl rfl)) ?_
    refine Ol.gp rfl (lens sl_L_api_Block) ?_
    refine Ol.gp rfl lsi ?_
    refine Ol.p (pkFb rfl) ?_
    refine Ol.nil ?_
    rw [e2]
    refine Cd.cond rfl (fun h => ?_) (fun h => ?_)   -- $23
    · refine Cd.seq ?_
      refine Cd.region ?_
      refine Ol.p asi ?_
      refine Ol.nil ?_
      exact Cd.ret ⟨.int .i64 _, ret1 rfl rfl, [], .nil, by rw [e1, hok, h]; rfl, rfl⟩
    refine Cd.skip ?_
    refine Cd.seq ?_
    refine Cd.seq ?_
    refine Cd.region ?_
    refine Ol.p (ldw ag_api_Func (i := 0) rfl rfl) ?_
    refine Ol.s (cl en_ir_valued (fun M w' hh => ir_valued_ct (hf.now hh) hfit hl hwt hok)) ?_
    refine Ol.p noti ?_
    refine Ol.nil ?_
    refine Cd.cond rfl (fun h2 => ?_) (fun h2 => ?_)   -- $26
    · refine Cd.seq ?_
      refine Cd.region ?_
      refine Ol.p asi ?_
      refine Ol.nil ?_
      exact Cd.ret ⟨.int .i64 _, ret1 rfl rfl, [], .nil, by rw [e1, hok, h, h2]; rfl, rfl⟩
    refine Cd.skip ?_
    refine Cd.seq ?_
    refine Cd.region ?_
    refine Ol.p asi ?_
    refine Ol.nil ?_
    exact Cd.ret ⟨.int .i64 _, ret1 rfl rfl, [], .nil, by rw [e1, hok, h, h2]; rfl, rfl⟩
end
end Go.Proofs.YtcojedoejpcolaaGreat

/- Functions told by what they hold, not where: plain laws. -/
namespace Go.Proofs.YtcojedoejpcolaaGreat
set_option linter.unusedVariables false
open Go Go.RowKit

def RIns.bare (i : RIns) : RIns := { i with aA := none, aC := 0 }
def RBlk.bare (b : RBlk) : RBlk := { b with iA := none, iC := 0, ins := b.ins.map RIns.bare }
def RFun.bare (f : RFun) : RFun := { f with pA := none, pC := 0, bA := none, bC := 0, blocks := f.blocks.map RBlk.bare }
theorem isIns_bare (i : RIns) : isIns i.bare = isIns i := rfl
theorem readsL_bare (i : RIns) : readsL i.bare = readsL i := rfl
theorem defI_bare (i : RIns) : defI i.bare = defI i := rfl
theorem exposed_bare : ∀ (l : List RIns) (t : Tm) (v : Int), exposed (l.map RIns.bare) t v = exposed l t v
  | [], _, _ => rfl
  | i :: l, t, v => by
    show ((readsL i.bare).contains v || (!decide (defI i.bare = v) && exposed (l.map RIns.bare) t v)) = _
    rw [exposed_bare l t v]; rfl
theorem terms_bare (f : RFun) : f.bare.terms = f.terms := by
  unfold RFun.terms RFun.bare
  rw [List.map_map]
  rfl
theorem longF_bare (f : RFun) : longF f.bare = longF f := by
  unfold longF RFun.bare
  simp only [List.length_map, List.any_map]
  congr 1
  apply congrArg
  funext b
  simp [Function.comp, RBlk.bare]
theorem wholeF_bare (f : RFun) : wholeF f.bare = wholeF f := by
  unfold wholeF RFun.bare
  simp only [List.all_map]
  congr 1
  apply congrArg
  funext b
  simp only [Function.comp, wholeB, RBlk.bare, List.all_map]
  rfl
theorem blk_bare {f : RFun} {b : Nat} {x : RBlk} (h : f.blocks[b]? = some x) : f.bare.blocks[b]? = some x.bare := by
  unfold RFun.bare
  rw [List.getElem?_map, h]; rfl
theorem blk_unbare {f : RFun} {b : Nat} {x : RBlk} (h : f.bare.blocks[b]? = some x) : ∃ y, f.blocks[b]? = some y ∧ x = y.bare := by
  unfold RFun.bare at h
  rw [List.getElem?_map] at h
  cases hb : f.blocks[b]? with
  | none => rw [hb] at h; cases h
  | some y => rw [hb] at h; exact ⟨y, rfl, (Option.some.inj h).symm⟩
theorem Bare_bare {f : RFun} {v b : Nat} : Bare f.bare v b ↔ Bare f v b := by
  constructor
  · intro h
    induction h with
    | zero hp => exact .zero hp
    | step _ ha hd ht ih =>
      obtain ⟨y, hy, rfl⟩ := blk_unbare ha
      exact .step ih hy (fun i hi => hd i.bare (List.mem_map_of_mem hi)) ht
  · intro h
    induction h with
    | zero hp => exact .zero hp
    | step _ ha hd ht ih =>
      refine .step ih (blk_bare ha) (fun i hi => ?_) ht
      obtain ⟨j, hj, rfl⟩ := List.mem_map.1 hi
      exact hd j hj
theorem valuedF_bare (f : RFun) : valuedF f.bare = valuedF f := by
  rw [Bool.eq_iff_iff, valuedF_iff, valuedF_iff]
  constructor
  · intro h b x v hx he hb
    exact h b x.bare v (blk_bare hx) (by show exposed (x.ins.map RIns.bare) x.term v = true; rw [exposed_bare]; exact he) (Bare_bare.2 hb)
  · intro h b x v hx he hb
    obtain ⟨y, hy, rfl⟩ := blk_unbare hx
    exact h b y v hy (by rw [← exposed_bare]; exact he) (Bare_bare.1 hb)
theorem rightF_bare (f : RFun) : rightF f.bare = rightF f := by
  unfold rightF
  rw [longF_bare, wholeF_bare, terms_bare, valuedF_bare]
  unfold RFun.bare
  simp
theorem rightF_same {f g : RFun} (h : g.bare = f.bare) : rightF g = rightF f := by rw [← rightF_bare, h, rightF_bare]
theorem bare_lens {f g : RFun} (h : g.bare = f.bare) : g.params = f.params ∧ g.blocks.length = f.blocks.length := by
  have h1 := congrArg RFun.params h
  have h2 := congrArg (fun x : RFun => x.blocks.length) h
  simp [RFun.bare] at h1 h2
  exact ⟨h1, h2⟩
end Go.Proofs.YtcojedoejpcolaaGreat

/- The kit: functions are compared, walked. -/
namespace Go.Proofs.YtcojedoejpcolaaGreat
set_option linter.unusedVariables false
open Go Go.RowKit
set_option maxRecDepth 100000

noncomputable instance : DecidableEq RIns := fun _ _ => Classical.propDecidable _
noncomputable instance : DecidableEq RBlk := fun _ _ => Classical.propDecidable _
noncomputable instance : DecidableEq RFun := fun _ _ => Classical.propDecidable _
section
set_option maxHeartbeats 4000000 in
theorem kit_SameIns_ct {w : World} {a b : RIns} (ha : Reads w w.heap.size 1 a.aA a.args.length (ints a.args)) (hb : Reads w w.heap.size 1 b.aA b.args.length (ints b.args)) (hal : a.args.length < 2 ^ 60) (hbl : b.args.length < 2 ^ 60) : Ct Tryz.prog 141 #[a.val, b.val] w (Is (.bool (decide (a.bare = b.bare)))) := by
  refine Ct.mk Tryz.func141 rfl rfl ?_
  refine Cd.seq ?_
  refine Cd.region ?_
  refine Ol.x bxg ?_
  rintro _ _ ⟨g2, rfl, rfl⟩
  refine Ol.x bxg ?_
  rintro _ _ ⟨g3, rfl, rfl⟩
  refine Ol.p asb ?_
  refine Ol.nil ?_
  refine Cd.seq ?_
  cases h0 : decide (a.op = b.op) with
  | true =>
    cases h1 : decide (a.dst = b.dst) with
    | true =>
      cases h2 : decide (a.a = b.a) with
      | true =>
        cases h3 : decide (a.b = b.b) with
        | true =>
          cases h4 : decide (a.imm = b.imm) with
          | true =>
            cases h5 : decide (a.callee = b.callee) with
            | true =>
              cases h6 : decide (a.args = b.args) with
              | true =>
                refine Cd.region ?_
                refine Ol.p (fdl fd_api_Ins_0) ?_
                refine Ol.p (ld (v := .int .i64 a.op) one_api_Op (Rd.blk (i := 1) rfl rfl)) ?_
                refine Ol.p (fdl fd_api_Ins_0) ?_
                refine Ol.p (ld (v := .int .i64 b.op) one_api_Op (Rd.blk (i := 0) rfl rfl)) ?_
                refine Ol.p eqi ?_
                refine Ol.p mvb ?_
                refine Ol.gp h0 (fdl fd_api_Ins_1) ?_
                refine Ol.gp h0 (ld (v := .int .i64 a.dst) one_int (Rd.blk (i := 1) rfl rfl)) ?_
                refine Ol.gp h0 (fdl fd_api_Ins_1) ?_
                refine Ol.gp h0 (ld (v := .int .i64 b.dst) one_int (Rd.blk (i := 0) rfl rfl)) ?_
                refine Ol.gp h0 eqi ?_
                refine Ol.p (pkTb h0) ?_
                refine Ol.p mvb ?_
                refine Ol.gp h1 (fdl fd_api_Ins_2) ?_
                refine Ol.gp h1 (ld (v := .int .i64 a.a) one_int (Rd.blk (i := 1) rfl rfl)) ?_
                refine Ol.gp h1 (fdl fd_api_Ins_2) ?_
                refine Ol.gp h1 (ld (v := .int .i64 b.a) one_int (Rd.blk (i := 0) rfl rfl)) ?_
                refine Ol.gp h1 eqi ?_
                refine Ol.p (pkTb h1) ?_
                refine Ol.p mvb ?_
                refine Ol.gp h2 (fdl fd_api_Ins_3) ?_
                refine Ol.gp h2 (ld (v := .int .i64 a.b) one_int (Rd.blk (i := 1) rfl rfl)) ?_
                refine Ol.gp h2 (fdl fd_api_Ins_3) ?_
                refine Ol.gp h2 (ld (v := .int .i64 b.b) one_int (Rd.blk (i := 0) rfl rfl)) ?_
                refine Ol.gp h2 eqi ?_
                refine Ol.p (pkTb h2) ?_
                refine Ol.p mvb ?_
                refine Ol.gp h3 (fdl fd_api_Ins_4) ?_
                refine Ol.gp h3 (ld (v := .int .i64 a.imm) one_int (Rd.blk (i := 1) rfl rfl)) ?_
                refine Ol.gp h3 (fdl fd_api_Ins_4) ?_
                refine Ol.gp h3 (ld (v := .int .i64 b.imm) one_int (Rd.blk (i := 0) rfl rfl)) ?_
                refine Ol.gp h3 eqi ?_
                refine Ol.p (pkTb h3) ?_
                refine Ol.p mvb ?_
                refine Ol.gp h4 (fdl fd_api_Ins_5) ?_
                refine Ol.gp h4 (ld (v := .int .i64 a.callee) one_int (Rd.blk (i := 1) rfl rfl)) ?_
                refine Ol.gp h4 (fdl fd_api_Ins_5) ?_
                refine Ol.gp h4 (ld (v := .int .i64 b.callee) one_int (Rd.blk (i := 0) rfl rfl)) ?_
                refine Ol.gp h4 eqi ?_
                refine Ol.p (pkTb h4) ?_
                refine Ol.p mvb ?_
                refine Ol.gp h5 (fdl fd_api_Ins_6) ?_
                refine Ol.gp h5 (ld (v := .slice a.aA a.args.length a.aC) one_L_int (Rd.blk (i := 1) rfl rfl)) ?_
                refine Ol.gp h5 (fdl fd_api_Ins_6) ?_
                refine Ol.gp h5 (ld (v := .slice b.aA b.args.length b.aC) one_L_int (Rd.blk (i := 0) rfl rfl)) ?_
                refine Ol.gs h5 (cl en_kit_SameInts (fun M w' hh => kit_SameInts_ct (ha.now hh) (hb.now hh) (by omega) (by omega))) ?_
                refine Ol.p (pkTb h5) ?_
                refine Ol.p mvb ?_
                refine Ol.gp h6 (fdl fd_api_Ins_7) ?_
                refine Ol.gp h6 (ld (v := .int .i64 a.many) one_int (Rd.blk (i := 1) rfl rfl)) ?_
                refine Ol.gp h6 (fdl fd_api_Ins_7) ?_
                refine Ol.gp h6 (ld (v := .int .i64 b.many) one_int (Rd.blk (i := 0) rfl rfl)) ?_
                refine Ol.gp h6 eqi ?_
                refine Ol.p (pkTb h6) ?_
                refine Ol.p asb ?_
                refine Ol.nil ?_
                refine Cd.ret ⟨.bool _, ret1 rfl rfl, [], Keep.nil, congrArg Value.bool ?_, rfl⟩
                have q0 := of_decide_eq_true h0
                have q1 := of_decide_eq_true h1
                have q2 := of_decide_eq_true h2
                have q3 := of_decide_eq_true h3
                have q4 := of_decide_eq_true h4
                have q5 := of_decide_eq_true h5
                have q6 := of_decide_eq_true h6
                rw [decide_eq_decide]
                unfold RIns.bare
                simp [q0, q1, q2, q3, q4, q5, q6]
              | false =>
                refine Cd.region ?_
                refine Ol.p (fdl fd_api_Ins_0) ?_
                refine Ol.p (ld (v := .int .i64 a.op) one_api_Op (Rd.blk (i := 1) rfl rfl)) ?_
                refine Ol.p (fdl fd_api_Ins_0) ?_
                refine Ol.p (ld (v := .int .i64 b.op) one_api_Op (Rd.blk (i := 0) rfl rfl)) ?_
                refine Ol.p eqi ?_
                refine Ol.p mvb ?_
                refine Ol.gp h0 (fdl fd_api_Ins_1) ?_
                refine Ol.gp h0 (ld (v := .int .i64 a.dst) one_int (Rd.blk (i := 1) rfl rfl)) ?_
                refine Ol.gp h0 (fdl fd_api_Ins_1) ?_
                refine Ol.gp h0 (ld (v := .int .i64 b.dst) one_int (Rd.blk (i := 0) rfl rfl)) ?_
                refine Ol.gp h0 eqi ?_
                refine Ol.p (pkTb h0) ?_
                refine Ol.p mvb ?_
                refine Ol.gp h1 (fdl fd_api_Ins_2) ?_
                refine Ol.gp h1 (ld (v := .int .i64 a.a) one_int (Rd.blk (i := 1) rfl rfl)) ?_
                refine Ol.gp h1 (fdl fd_api_Ins_2) ?_
                refine Ol.gp h1 (ld (v := .int .i64 b.a) one_int (Rd.blk (i := 0) rfl rfl)) ?_
                refine Ol.gp h1 eqi ?_
                refine Ol.p (pkTb h1) ?_
                refine Ol.p mvb ?_
                refine Ol.gp h2 (fdl fd_api_Ins_3) ?_
                refine Ol.gp h2 (ld (v := .int .i64 a.b) one_int (Rd.blk (i := 1) rfl rfl)) ?_
                refine Ol.gp h2 (fdl fd_api_Ins_3) ?_
                refine Ol.gp h2 (ld (v := .int .i64 b.b) one_int (Rd.blk (i := 0) rfl rfl)) ?_
                refine Ol.gp h2 eqi ?_
                refine Ol.p (pkTb h2) ?_
                refine Ol.p mvb ?_
                refine Ol.gp h3 (fdl fd_api_Ins_4) ?_
                refine Ol.gp h3 (ld (v := .int .i64 a.imm) one_int (Rd.blk (i := 1) rfl rfl)) ?_
                refine Ol.gp h3 (fdl fd_api_Ins_4) ?_
                refine Ol.gp h3 (ld (v := .int .i64 b.imm) one_int (Rd.blk (i := 0) rfl rfl)) ?_
                refine Ol.gp h3 eqi ?_
                refine Ol.p (pkTb h3) ?_
                refine Ol.p mvb ?_
                refine Ol.gp h4 (fdl fd_api_Ins_5) ?_
                refine Ol.gp h4 (ld (v := .int .i64 a.callee) one_int (Rd.blk (i := 1) rfl rfl)) ?_
                refine Ol.gp h4 (fdl fd_api_Ins_5) ?_
                refine Ol.gp h4 (ld (v := .int .i64 b.callee) one_int (Rd.blk (i := 0) rfl rfl)) ?_
                refine Ol.gp h4 eqi ?_
                refine Ol.p (pkTb h4) ?_
                refine Ol.p mvb ?_
                refine Ol.gp h5 (fdl fd_api_Ins_6) ?_
                refine Ol.gp h5 (ld (v := .slice a.aA a.args.length a.aC) one_L_int (Rd.blk (i := 1) rfl rfl)) ?_
                refine Ol.gp h5 (fdl fd_api_Ins_6) ?_
                refine Ol.gp h5 (ld (v := .slice b.aA b.args.length b.aC) one_L_int (Rd.blk (i := 0) rfl rfl)) ?_
                refine Ol.gs h5 (cl en_kit_SameInts (fun M w' hh => kit_SameInts_ct (ha.now hh) (hb.now hh) (by omega) (by omega))) ?_
                refine Ol.p (pkTb h5) ?_
                refine Ol.p mvb ?_
                refine Ol.gn h6 ?_
                refine Ol.gn h6 ?_
                refine Ol.gn h6 ?_
                refine Ol.gn h6 ?_
                refine Ol.gn h6 ?_
                refine Ol.p (pkFb h6) ?_
                refine Ol.p asb ?_
                refine Ol.nil ?_
                refine Cd.ret ⟨.bool false, ret1 rfl rfl, [], Keep.nil, congrArg Value.bool ?_, rfl⟩
                exact (decide_eq_false fun e => of_decide_eq_false h6 (congrArg RIns.args e : a.bare.args = b.bare.args)).symm
            | false =>
              refine Cd.region ?_
              refine Ol.p (fdl fd_api_Ins_0) ?_
              refine Ol.p (ld (v := .int .i64 a.op) one_api_Op (Rd.blk (i := 1) rfl rfl)) ?_
              refine Ol.p (fdl fd_api_Ins_0) ?_
              refine Ol.p (ld (v := .int .i64 b.op) one_api_Op (Rd.blk (i := 0) rfl rfl)) ?_
              refine Ol.p eqi ?_
              refine Ol.p mvb ?_
              refine Ol.gp h0 (fdl fd_api_Ins_1) ?_
              refine Ol.gp h0 (ld (v := .int .i64 a.dst) one_int (Rd.blk (i := 1) rfl rfl)) ?_
              refine Ol.gp h0 (fdl fd_api_Ins_1) ?_
              refine Ol.gp h0 (ld (v := .int .i64 b.dst) one_int (Rd.blk (i := 0) rfl rfl)) ?_
              refine Ol.gp h0 eqi ?_
              refine Ol.p (pkTb h0) ?_
              refine Ol.p mvb ?_
              refine Ol.gp h1 (fdl fd_api_Ins_2) ?_
              refine Ol.gp h1 (ld (v := .int .i64 a.a) one_int (Rd.blk (i := 1) rfl rfl)) ?_
              refine Ol.gp h1 (fdl fd_api_Ins_2) ?_
              refine Ol.gp h1 (ld (v := .int .i64 b.a) one_int (Rd.blk (i := 0) rfl rfl)) ?_
              refine Ol.gp h1 eqi ?_
              refine Ol.p (pkTb h1) ?_
              refine Ol.p mvb ?_
              refine Ol.gp h2 (fdl fd_api_Ins_3) ?_
              refine Ol.gp h2 (ld (v := .int .i64 a.b) one_int (Rd.blk (i := 1) rfl rfl)) ?_
              refine Ol.gp h2 (fdl fd_api_Ins_3) ?_
              refine Ol.gp h2 (ld (v := .int .i64 b.b) one_int (Rd.blk (i := 0) rfl rfl)) ?_
              refine Ol.gp h2 eqi ?_
              refine Ol.p (pkTb h2) ?_
              refine Ol.p mvb ?_
              refine Ol.gp h3 (fdl fd_api_Ins_4) ?_
              refine Ol.gp h3 (ld (v := .int .i64 a.imm) one_int (Rd.blk (i := 1) rfl rfl)) ?_
              refine Ol.gp h3 (fdl fd_api_Ins_4) ?_
              refine Ol.gp h3 (ld (v := .int .i64 b.imm) one_int (Rd.blk (i := 0) rfl rfl)) ?_
              refine Ol.gp h3 eqi ?_
              refine Ol.p (pkTb h3) ?_
              refine Ol.p mvb ?_
              refine Ol.gp h4 (fdl fd_api_Ins_5) ?_
              refine Ol.gp h4 (ld (v := .int .i64 a.callee) one_int (Rd.blk (i := 1) rfl rfl)) ?_
              refine Ol.gp h4 (fdl fd_api_Ins_5) ?_
              refine Ol.gp h4 (ld (v := .int .i64 b.callee) one_int (Rd.blk (i := 0) rfl rfl)) ?_
              refine Ol.gp h4 eqi ?_
              refine Ol.p (pkTb h4) ?_
              refine Ol.p mvb ?_
              refine Ol.gn h5 ?_
              refine Ol.gn h5 ?_
              refine Ol.gn h5 ?_
              refine Ol.gn h5 ?_
              refine Ol.gn h5 ?_
              refine Ol.p (pkFb h5) ?_
              refine Ol.p mvb ?_
              refine Ol.gn rfl ?_
              refine Ol.gn rfl ?_
              refine Ol.gn rfl ?_
              refine Ol.gn rfl ?_
              refine Ol.gn rfl ?_
              refine Ol.p (pkFb rfl) ?_
              refine Ol.p asb ?_
              refine Ol.nil ?_
              refine Cd.ret ⟨.bool false, ret1 rfl rfl, [], Keep.nil, congrArg Value.bool ?_, rfl⟩
              exact (decide_eq_false fun e => of_decide_eq_false h5 (congrArg RIns.callee e : a.bare.callee = b.bare.callee)).symm
          | false =>
            refine Cd.region ?_
            refine Ol.p (fdl fd_api_Ins_0) ?_
            refine Ol.p (ld (v := .int .i64 a.op) one_api_Op (Rd.blk (i := 1) rfl rfl)) ?_
            refine Ol.p (fdl fd_api_Ins_0) ?_
            refine Ol.p (ld (v := .int .i64 b.op) one_api_Op (Rd.blk (i := 0) rfl rfl)) ?_
            refine Ol.p eqi ?_
            refine Ol.p mvb ?_
            refine Ol.gp h0 (fdl fd_api_Ins_1) ?_
            refine Ol.gp h0 (ld (v := .int .i64 a.dst) one_int (Rd.blk (i := 1) rfl rfl)) ?_
            refine Ol.gp h0 (fdl fd_api_Ins_1) ?_
            refine Ol.gp h0 (ld (v := .int .i64 b.dst) one_int (Rd.blk (i := 0) rfl rfl)) ?_
            refine Ol.gp h0 eqi ?_
            refine Ol.p (pkTb h0) ?_
            refine Ol.p mvb ?_
            refine Ol.gp h1 (fdl fd_api_Ins_2) ?_
            refine Ol.gp h1 (ld (v := .int .i64 a.a) one_int (Rd.blk (i := 1) rfl rfl)) ?_
            refine Ol.gp h1 (fdl fd_api_Ins_2) ?_
            refine Ol.gp h1 (ld (v := .int .i64 b.a) one_int (Rd.blk (i := 0) rfl rfl)) ?_
            refine Ol.gp h1 eqi ?_
            refine Ol.p (pkTb h1) ?_
            refine Ol.p mvb ?_
            refine Ol.gp h2 (fdl fd_api_Ins_3) ?_
            refine Ol.gp h2 (ld (v := .int .i64 a.b) one_int (Rd.blk (i := 1) rfl rfl)) ?_
            refine Ol.gp h2 (fdl fd_api_Ins_3) ?_
            refine Ol.gp h2 (ld (v := .int .i64 b.b) one_int (Rd.blk (i := 0) rfl rfl)) ?_
            refine Ol.gp h2 eqi ?_
            refine Ol.p (pkTb h2) ?_
            refine Ol.p mvb ?_
            refine Ol.gp h3 (fdl fd_api_Ins_4) ?_
            refine Ol.gp h3 (ld (v := .int .i64 a.imm) one_int (Rd.blk (i := 1) rfl rfl)) ?_
            refine Ol.gp h3 (fdl fd_api_Ins_4) ?_
            refine Ol.gp h3 (ld (v := .int .i64 b.imm) one_int (Rd.blk (i := 0) rfl rfl)) ?_
            refine Ol.gp h3 eqi ?_
            refine Ol.p (pkTb h3) ?_
            refine Ol.p mvb ?_
            refine Ol.gn h4 ?_
            refine Ol.gn h4 ?_
            refine Ol.gn h4 ?_
            refine Ol.gn h4 ?_
            refine Ol.gn h4 ?_
            refine Ol.p (pkFb h4) ?_
            refine Ol.p mvb ?_
            refine Ol.gn rfl ?_
            refine Ol.gn rfl ?_
            refine Ol.gn rfl ?_
            refine Ol.gn rfl ?_
            refine Ol.gn rfl ?_
            refine Ol.p (pkFb rfl) ?_
            refine Ol.p mvb ?_
            refine Ol.gn rfl ?_
            refine Ol.gn rfl ?_
            refine Ol.gn rfl ?_
            refine Ol.gn rfl ?_
            refine Ol.gn rfl ?_
            refine Ol.p (pkFb rfl) ?_
            refine Ol.p asb ?_
            refine Ol.nil ?_
            refine Cd.ret ⟨.bool false, ret1 rfl rfl, [], Keep.nil, congrArg Value.bool ?_, rfl⟩
            exact (decide_eq_false fun e => of_decide_eq_false h4 (congrArg RIns.imm e : a.bare.imm = b.bare.imm)).symm
        | false =>
          refine Cd.region ?_
          refine Ol.p (fdl fd_api_Ins_0) ?_
          refine Ol.p (ld (v := .int .i64 a.op) one_api_Op (Rd.blk (i := 1) rfl rfl)) ?_
          refine Ol.p (fdl fd_api_Ins_0) ?_
          refine Ol.p (ld (v := .int .i64 b.op) one_api_Op (Rd.blk (i := 0) rfl rfl)) ?_
          refine Ol.p eqi ?_
          refine Ol.p mvb ?_
          refine Ol.gp h0 (fdl fd_api_Ins_1) ?_
          refine Ol.gp h0 (ld (v := .int .i64 a.dst) one_int (Rd.blk (i := 1) rfl rfl)) ?_
          refine Ol.gp h0 (fdl fd_api_Ins_1) ?_
          refine Ol.gp h0 (ld (v := .int .i64 b.dst) one_int (Rd.blk (i := 0) rfl rfl)) ?_
          refine Ol.gp h0 eqi ?_
          refine Ol.p (pkTb h0) ?_
          refine Ol.p mvb ?_
          refine Ol.gp h1 (fdl fd_api_Ins_2) ?_
          refine Ol.gp h1 (ld (v := .int .i64 a.a) one_int (Rd.blk (i := 1) rfl rfl)) ?_
          refine Ol.gp h1 (fdl fd_api_Ins_2) ?_
          refine Ol.gp h1 (ld (v := .int .i64 b.a) one_int (Rd.blk (i := 0) rfl rfl)) ?_
          refine Ol.gp h1 eqi ?_
          refine Ol.p (pkTb h1) ?_
          refine Ol.p mvb ?_
          refine Ol.gp h2 (fdl fd_api_Ins_3) ?_
          refine Ol.gp h2 (ld (v := .int .i64 a.b) one_int (Rd.blk (i := 1) rfl rfl)) ?_
          refine Ol.gp h2 (fdl fd_api_Ins_3) ?_
          refine Ol.gp h2 (ld (v := .int .i64 b.b) one_int (Rd.blk (i := 0) rfl rfl)) ?_
          refine Ol.gp h2 eqi ?_
          refine Ol.p (pkTb h2) ?_
          refine Ol.p mvb ?_
          refine Ol.gn h3 ?_
          refine Ol.gn h3 ?_
          refine Ol.gn h3 ?_
          refine Ol.gn h3 ?_
          refine Ol.gn h3 ?_
          refine Ol.p (pkFb h3) ?_
          refine Ol.p mvb ?_
          refine Ol.gn rfl ?_
          refine Ol.gn rfl ?_
          refine Ol.gn rfl ?_
          refine Ol.gn rfl ?_
          refine Ol.gn rfl ?_
          refine Ol.p (pkFb rfl) ?_
          refine Ol.p mvb ?_
          refine Ol.gn rfl ?_
          refine Ol.gn rfl ?_
          refine Ol.gn rfl ?_
          refine Ol.gn rfl ?_
          refine Ol.gn rfl ?_
          refine Ol.p (pkFb rfl) ?_
          refine Ol.p mvb ?_
          refine Ol.gn rfl ?_
          refine Ol.gn rfl ?_
          refine Ol.gn rfl ?_
          refine Ol.gn rfl ?_
          refine Ol.gn rfl ?_
          refine Ol.p (pkFb rfl) ?_
          refine Ol.p asb ?_
          refine Ol.nil ?_
          refine Cd.ret ⟨.bool false, ret1 rfl rfl, [], Keep.nil, congrArg Value.bool ?_, rfl⟩
          exact (decide_eq_false fun e => of_decide_eq_false h3 (congrArg RIns.b e : a.bare.b = b.bare.b)).symm
      | false =>
        refine Cd.region ?_
        refine Ol.p (fdl fd_api_Ins_0) ?_
        refine Ol.p (ld (v := .int .i64 a.op) one_api_Op (Rd.blk (i := 1) rfl rfl)) ?_
        refine Ol.p (fdl fd_api_Ins_0) ?_
        refine Ol.p (ld (v := .int .i64 b.op) one_api_Op (Rd.blk (i := 0) rfl rfl)) ?_
        refine Ol.p eqi ?_
        refine Ol.p mvb ?_
        refine Ol.gp h0 (fdl fd_api_Ins_1) ?_
        refine Ol.gp h0 (ld (v := .int .i64 a.dst) one_int (Rd.blk (i := 1) rfl rfl)) ?_
        refine Ol.gp h0 (fdl fd_api_Ins_1) ?_
        refine Ol.gp h0 (ld (v := .int .i64 b.dst) one_int (Rd.blk (i := 0) rfl rfl)) ?_
        refine Ol.gp h0 eqi ?_
        refine Ol.p (pkTb h0) ?_
        refine Ol.p mvb ?_
        refine Ol.gp h1 (fdl fd_api_Ins_2) ?_
        refine Ol.gp h1 (ld (v := .int .i64 a.a) one_int (Rd.blk (i := 1) rfl rfl)) ?_
        refine Ol.gp h1 (fdl fd_api_Ins_2) ?_
        refine Ol.gp h1 (ld (v := .int .i64 b.a) one_int (Rd.blk (i := 0) rfl rfl)) ?_
        refine Ol.gp h1 eqi ?_
        refine Ol.p (pkTb h1) ?_
        refine Ol.p mvb ?_
        refine Ol.gn h2 ?_
        refine Ol.gn h2 ?_
        refine Ol.gn h2 ?_
        refine Ol.gn h2 ?_
        refine Ol.gn h2 ?_
        refine Ol.p (pkFb h2) ?_
        refine Ol.p mvb ?_
        refine Ol.gn rfl ?_
        refine Ol.gn rfl ?_
        refine Ol.gn rfl ?_
        refine Ol.gn rfl ?_
        refine Ol.gn rfl ?_
        refine Ol.p (pkFb rfl) ?_
        refine Ol.p mvb ?_
        refine Ol.gn rfl ?_
        refine Ol.gn rfl ?_
        refine Ol.gn rfl ?_
        refine Ol.gn rfl ?_
        refine Ol.gn rfl ?_
        refine Ol.p (pkFb rfl) ?_
        refine Ol.p mvb ?_
        refine Ol.gn rfl ?_
        refine Ol.gn rfl ?_
        refine Ol.gn rfl ?_
        refine Ol.gn rfl ?_
        refine Ol.gn rfl ?_
        refine Ol.p (pkFb rfl) ?_
        refine Ol.p mvb ?_
        refine Ol.gn rfl ?_
        refine Ol.gn rfl ?_
        refine Ol.gn rfl ?_
        refine Ol.gn rfl ?_
        refine Ol.gn rfl ?_
        refine Ol.p (pkFb rfl) ?_
        refine Ol.p asb ?_
        refine Ol.nil ?_
        refine Cd.ret ⟨.bool false, ret1 rfl rfl, [], Keep.nil, congrArg Value.bool ?_, rfl⟩
        exact (decide_eq_false fun e => of_decide_eq_false h2 (congrArg RIns.a e : a.bare.a = b.bare.a)).symm
    | false =>
      refine Cd.region ?_
      refine Ol.p (fdl fd_api_Ins_0) ?_
      refine Ol.p (ld (v := .int .i64 a.op) one_api_Op (Rd.blk (i := 1) rfl rfl)) ?_
      refine Ol.p (fdl fd_api_Ins_0) ?_
      refine Ol.p (ld (v := .int .i64 b.op) one_api_Op (Rd.blk (i := 0) rfl rfl)) ?_
      refine Ol.p eqi ?_
      refine Ol.p mvb ?_
      refine Ol.gp h0 (fdl fd_api_Ins_1) ?_
      refine Ol.gp h0 (ld (v := .int .i64 a.dst) one_int (Rd.blk (i := 1) rfl rfl)) ?_
      refine Ol.gp h0 (fdl fd_api_Ins_1) ?_
      refine Ol.gp h0 (ld (v := .int .i64 b.dst) one_int (Rd.blk (i := 0) rfl rfl)) ?_
      refine Ol.gp h0 eqi ?_
      refine Ol.p (pkTb h0) ?_
      refine Ol.p mvb ?_
      refine Ol.gn h1 ?_
      refine Ol.gn h1 ?_
      refine Ol.gn h1 ?_
      refine Ol.gn h1 ?_
      refine Ol.gn h1 ?_
      refine Ol.p (pkFb h1) ?_
      refine Ol.p mvb ?_
      refine Ol.gn rfl ?_
      refine Ol.gn rfl ?_
      refine Ol.gn rfl ?_
      refine Ol.gn rfl ?_
      refine Ol.gn rfl ?_
      refine Ol.p (pkFb rfl) ?_
      refine Ol.p mvb ?_
      refine Ol.gn rfl ?_
      refine Ol.gn rfl ?_
      refine Ol.gn rfl ?_
      refine Ol.gn rfl ?_
      refine Ol.gn rfl ?_
      refine Ol.p (pkFb rfl) ?_
      refine Ol.p mvb ?_
      refine Ol.gn rfl ?_
      refine Ol.gn rfl ?_
      refine Ol.gn rfl ?_
      refine Ol.gn rfl ?_
      refine Ol.gn rfl ?_
      refine Ol.p (pkFb rfl) ?_
      refine Ol.p mvb ?_
      refine Ol.gn rfl ?_
      refine Ol.gn rfl ?_
      refine Ol.gn rfl ?_
      refine Ol.gn rfl ?_
      refine Ol.gn rfl ?_
      refine Ol.p (pkFb rfl) ?_
      refine Ol.p mvb ?_
      refine Ol.gn rfl ?_
      refine Ol.gn rfl ?_
      refine Ol.gn rfl ?_
      refine Ol.gn rfl ?_
      refine Ol.gn rfl ?_
      refine Ol.p (pkFb rfl) ?_
      refine Ol.p asb ?_
      refine Ol.nil ?_
      refine Cd.ret ⟨.bool false, ret1 rfl rfl, [], Keep.nil, congrArg Value.bool ?_, rfl⟩
      exact (decide_eq_false fun e => of_decide_eq_false h1 (congrArg RIns.dst e : a.bare.dst = b.bare.dst)).symm
  | false =>
    refine Cd.region ?_
    refine Ol.p (fdl fd_api_Ins_0) ?_
    refine Ol.p (ld (v := .int .i64 a.op) one_api_Op (Rd.blk (i := 1) rfl rfl)) ?_
    refine Ol.p (fdl fd_api_Ins_0) ?_
    refine Ol.p (ld (v := .int .i64 b.op) one_api_Op (Rd.blk (i := 0) rfl rfl)) ?_
    refine Ol.p eqi ?_
    refine Ol.p mvb ?_
    refine Ol.gn h0 ?_
    refine Ol.gn h0 ?_
    refine Ol.gn h0 ?_
    refine Ol.gn h0 ?_
    refine Ol.gn h0 ?_
    refine Ol.p (pkFb h0) ?_
    refine Ol.p mvb ?_
    refine Ol.gn rfl ?_
    refine Ol.gn rfl ?_
    refine Ol.gn rfl ?_
    refine Ol.gn rfl ?_
    refine Ol.gn rfl ?_
    refine Ol.p (pkFb rfl) ?_
    refine Ol.p mvb ?_
    refine Ol.gn rfl ?_
    refine Ol.gn rfl ?_
    refine Ol.gn rfl ?_
    refine Ol.gn rfl ?_
    refine Ol.gn rfl ?_
    refine Ol.p (pkFb rfl) ?_
    refine Ol.p mvb ?_
    refine Ol.gn rfl ?_
    refine Ol.gn rfl ?_
    refine Ol.gn rfl ?_
    refine Ol.gn rfl ?_
    refine Ol.gn rfl ?_
    refine Ol.p (pkFb rfl) ?_
    refine Ol.p mvb ?_
    refine Ol.gn rfl ?_
    refine Ol.gn rfl ?_
    refine Ol.gn rfl ?_
    refine Ol.gn rfl ?_
    refine Ol.gn rfl ?_
    refine Ol.p (pkFb rfl) ?_
    refine Ol.p mvb ?_
    refine Ol.gn rfl ?_
    refine Ol.gn rfl ?_
    refine Ol.gn rfl ?_
    refine Ol.gn rfl ?_
    refine Ol.gn rfl ?_
    refine Ol.p (pkFb rfl) ?_
    refine Ol.p mvb ?_
    refine Ol.gn rfl ?_
    refine Ol.gn rfl ?_
    refine Ol.gn rfl ?_
    refine Ol.gn rfl ?_
    refine Ol.gn rfl ?_
    refine Ol.p (pkFb rfl) ?_
    refine Ol.p asb ?_
    refine Ol.nil ?_
    refine Cd.ret ⟨.bool false, ret1 rfl rfl, [], Keep.nil, congrArg Value.bool ?_, rfl⟩
    exact (decide_eq_false fun e => of_decide_eq_false h0 (congrArg RIns.op e : a.bare.op = b.bare.op)).symm
end
theorem bare_ne {α β : Type} {F : α → β} {a b : List α} {k : Nat} {x y : α} (ha : a[k]? = some x) (hb : b[k]? = some y) (h : F x ≠ F y) : a.map F ≠ b.map F := fun e => by
  have := congrArg (fun l : List β => l[k]?) e
  simp only [List.getElem?_map, ha, hb, Option.map_some] at this
  exact h (Option.some.inj this)
section
set_option maxHeartbeats 2000000 in
theorem kit_SameRow_ct {w : World} {A B : Option Addr} {c d : Nat} {a b : List RIns} (hra : Reads w w.heap.size 8 A a.length (a.flatMap RIns.cells)) (hrb : Reads w w.heap.size 8 B b.length (b.flatMap RIns.cells)) (haa : ∀ i ∈ a, Reads w w.heap.size 1 i.aA i.args.length (ints i.args)) (hba : ∀ i ∈ b, Reads w w.heap.size 1 i.aA i.args.length (ints i.args)) (hai : ∀ i ∈ a, i.args.length < 2 ^ 60) (hbi : ∀ i ∈ b, i.args.length < 2 ^ 60) (hal : a.length < 2 ^ 60) (hbl : b.length < 2 ^ 60) :
    Ct Tryz.prog 135 #[.slice A a.length c, .slice B b.length d] w (Is (.bool (decide (a.map RIns.bare = b.map RIns.bare)))) := by
  refine Ct.mk Tryz.func135 rfl rfl ?_
  refine Cd.seq ?_
  refine Cd.region ?_
  refine Ol.p asb ?_
  refine Ol.nil ?_
  refine Cd.seq ?_
  refine Cd.seq ?_
  refine Cd.region ?_
  refine Ol.p mvs ?_
  refine Ol.p (lens sl_L_api_Ins) ?_
  refine Ol.p mvs ?_
  refine Ol.p (lens sl_L_api_Ins) ?_
  refine Ol.p nei ?_
  refine Ol.nil ?_
  refine Cd.cond rfl (fun h => ?_) (fun h => ?_)   -- $10
  · have hne : a.map RIns.bare ≠ b.map RIns.bare := fun e => by
      have := congrArg List.length e
      simp at this
      rw [this] at h
      simp at h
    refine Cd.seq ?_
    refine Cd.region ?_
    refine Ol.p asb ?_
    refine Ol.nil ?_
    exact Cd.ret ⟨.bool false, ret1 rfl rfl, [], .nil, by rw [decide_eq_false hne], rfl⟩
  have hlen : a.length = b.length := by
    have : (a.length : Int) = (b.length : Int) := by simpa using h
    omega
  refine Cd.skip ?_
  refine Cd.seq ?_
  refine Cd.seq ?_
  refine Cd.region ?_
  refine Ol.p asi ?_
  refine Ol.nil ?_
  refine Cd.block ?_   -- 0
  refine Cd.loop (fun m σ L => ∃ k, m = a.length - k ∧ k ≤ a.length ∧ (a.take k).map RIns.bare = (b.take k).map RIns.bare ∧ Has σ [(0, .slice A a.length c), (1, .slice B b.length d), (5, .int .i64 k)] ∧ [] = L) (n := a.length) ⟨0, rfl, Nat.zero_le _, rfl, ⟨rfl, rfl, rfl, trivial⟩, rfl⟩ ?_
  rintro _ σ L ⟨k, rfl, hk, hsame, hs, rfl⟩
  refine Cd.has hs ?_
  refine Cd.seq ?_
  refine Cd.seq ?_
  refine Cd.region ?_
  refine Ol.p mvi ?_
  refine Ol.p mvs ?_
  refine Ol.p (lens sl_L_api_Ins) ?_
  refine Ol.p lsi ?_
  refine Ol.nil ?_
  refine Cd.cond rfl (fun h => ?_) (fun h => ?_)   -- $14
  · have hlt : k < a.length := by
      simp only [decide_eq_true_eq] at h; omega
    obtain ⟨x, hx⟩ : ∃ x, a[k]? = some x := ⟨_, List.getElem?_eq_getElem hlt⟩
    obtain ⟨y, hy⟩ : ∃ y, b[k]? = some y := ⟨_, List.getElem?_eq_getElem (by omega)⟩
    have hxm := List.mem_of_getElem? hx
    have hym := List.mem_of_getElem? hy
    refine Cd.skip ?_
    refine Cd.seq ?_
    refine Cd.block ?_   -- 1
    refine Cd.seq ?_
    refine Cd.draw mixed 10 (exIs (fun opNo => match opNo with | 8 => some (.bool (decide (x.bare = y.bare))) | _ => none)) (fun _ => []) (by kernel_rfl) exIs_in (fun u hu => ?_)
    refine Wk.p mvs ?_
    refine Wk.p mvi ?_
    refine Wk.p (ixn (ix := k) sl_L_api_Ins (Som.slc hra (by omega))) ?_
    refine Wk.p (lds (es := x.cells) ag_api_Ins hra x.len (fun j u hu => ins_cell hx hu)) ?_
    refine Wk.p mvs ?_
    refine Wk.p mvi ?_
    refine Wk.p (ixn (ix := k) sl_L_api_Ins (Som.slc hrb (by omega))) ?_
    refine Wk.p (lds (es := y.cells) ag_api_Ins hrb y.len (fun j u hu => ins_cell hy hu)) ?_
    refine Wk.dk hu (sp_call en_kit_SameIns (fun M w' hh => kit_SameIns_ct ((haa x hxm).now hh) ((hba y hym).now hh) (hai x hxm) (hbi y hym))) ?_
    refine Wk.p noti ?_
    refine Wk.nil ?_
    rw [needs_exIs hu rfl]
    refine Ol.nil ?_
    refine Cd.cond rfl (fun h => ?_) (fun h => ?_)   -- $26
    · have hne : x.bare ≠ y.bare := by simpa using h
      refine Cd.seq ?_
      refine Cd.region ?_
      refine Ol.p asb ?_
      refine Ol.nil ?_
      exact Cd.ret ⟨.bool false, ret1 rfl rfl, [], .nil, by rw [decide_eq_false (bare_ne hx hy hne)], rfl⟩
    have heq : x.bare = y.bare := by simpa using h
    refine Cd.skip ?_
    refine Cd.region ?_
    refine Ol.p mvi ?_
    refine Ol.p addi ?_
    refine Ol.p asi ?_
    refine Ol.nil ?_
    refine ⟨a.length - (k + 1), by omega, k + 1, rfl, by omega, ?_, ⟨rfl, rfl, rfl, trivial⟩, rfl⟩
    rw [take_snoc_ hx, take_snoc_ hy, List.map_append, List.map_append, hsame, List.map_singleton, List.map_singleton, heq]
  have hke : k = a.length := by
    simp only [decide_eq_false_iff_not] at h; omega
  have heq : a.map RIns.bare = b.map RIns.bare := by
    rw [hke, List.take_of_length_le (Nat.le_refl _), hlen, List.take_of_length_le (Nat.le_refl _)] at hsame
    exact hsame
  refine Cd.exit (id := 0) ?_
  refine Cd.seq ?_
  refine Cd.region ?_
  refine Ol.p asb ?_
  refine Ol.nil ?_
  exact Cd.ret ⟨.bool true, ret1 rfl rfl, [], .nil, by rw [decide_eq_true heq], rfl⟩
end
end Go.Proofs.YtcojedoejpcolaaGreat

/- Ends, compared: a struct with an array in it. -/
namespace Go.Proofs.YtcojedoejpcolaaGreat
set_option linter.unusedVariables false
open Go Go.RowKit
section
variable {P : Program} {w0 : World} {B : Nat} {σ : Env} {L : List Res} {d : Option Nat} {ty T : TypeId} {pos : String} {af : Array Edge} {gd : Option (Nat × Bool)} {x y z : Operand} {v : Value}
theorem run_eqFields_cons {dd : Nat} {xs ys : Array Value} {f : Field} {fs : List Field} {a b : Value} {r : Bool} {w : World} (hn : f.name ≠ "_") (p1 : (part f.type xs f.offset).run P w = .ok a w) (p2 : (part f.type ys f.offset).run P w = .ok b w) (h1 : (Op.equalIn dd f.type a b).run P w = .ok r w) :
    (Op.eqFields dd xs ys (f :: fs)).run P w = if r = true then (Op.eqFields dd xs ys fs).run P w else .ok false w := by
  simp only [Op.eqFields, hn, ne_eq, not_false_eq_true, if_true, Sem.run_bind, p1, p2, h1, Result.andThen_ok]
  cases r <;> simp
def itB (P : Program) (e : TypeId) : Bool := (match P.underlying e with | some (.int _) => true | _ => false) && decide ((P.info? e).map (·.size) = some 1)
theorem itB_prim {e : TypeId} (h : itB P e = true) : ∃ k, primT P e (.int k) := by
  unfold itB at h
  rw [Bool.and_eq_true, decide_eq_true_eq] at h
  obtain ⟨h1, h2⟩ := h
  split at h1
  · rename_i k hk
    exact ⟨k, hk, rfl, h2⟩
  · cases h1
theorem run_equalIn_arr {n dd : Nat} {e T : TypeId} {kd : TypeDesc} {xs ys : Array Value} {r : Bool} (hT : P.underlying T = some (.array n e)) (he : primT P e kd) (hx : xs.size = n) (hy : ys.size = n) (h : ∀ (i : Nat) a b, xs[i]? = some a → ys[i]? = some b → Tell kd a b) (hr : r = true ↔ xs = ys) (w : World) : (Op.equalIn (dd + 2) T (.agg xs) (.agg ys)).run P w = .ok r w := by
  obtain ⟨i, hi, hs⟩ := info_of he.2.2
  have hc : P.cellsOf e = 1 := by simp [Program.cellsOf, hi, hs]
  have := run_equalIn_array (P := P) w (dd + 1) xs ys hT hi
  rw [hc, run_eqItems_prim (dd := dd) he w (List.range n) (fun i hi => by
    have hi : i < n := by simpa using hi
    exact ⟨xs[i], ys[i], Array.getElem?_eq_getElem _, Array.getElem?_eq_getElem _, h i _ _ (Array.getElem?_eq_getElem (by omega)) (Array.getElem?_eq_getElem (by omega))⟩) r (by
    rw [hr]
    constructor
    · rintro rfl i _; rfl
    · intro h
      apply Array.ext_getElem?
      intro i
      by_cases hi : i < n
      · exact h i (by simpa using hi)
      · rw [Array.getElem?_eq_none (by omega), Array.getElem?_eq_none (by omega)])] at this
  exact this
/-- A struct of two numbers and of two in an array. -/
def stT (P : Program) (T : TypeId) : Bool := match P.underlying T with
  | some (.struct fs) => (match fs.toList with
    | [f, g, h] => decide (f.name ≠ "_") && decide (g.name ≠ "_") && decide (h.name ≠ "_") && decide (f.offset = 0) && decide (g.offset = 1) && decide (h.offset = 2) && itB P f.type && itB P g.type && (match P.underlying h.type with | some (.array n e) => decide (n = 2) && itB P e && decide ((P.info? h.type).map (·.size) = some 2) | _ => false)
    | _ => false) && !P.stoodInHeld T && !P.eqGuardType P.depth T
  | _ => false
theorem run_equal_tm (hT : stT P T = true) (s t : Tm) (w : World) : (Op.equal T s.val t.val).run P w = .ok (decide (s = t)) w ∧ P.eqGuardType P.depth T = false := by
  unfold stT at hT
  split at hT
  · rename_i fs hu
    simp only [Bool.and_eq_true, Bool.not_eq_true'] at hT
    obtain ⟨⟨hT, h3⟩, h4⟩ := hT
    refine ⟨?_, h4⟩
    split at hT
    · rename_i f g h hfs
      simp only [Bool.and_eq_true, decide_eq_true_eq] at hT
      obtain ⟨⟨⟨⟨⟨⟨⟨⟨n1, n2⟩, n3⟩, o1⟩, o2⟩, o3⟩, i1⟩, i2⟩, hA⟩ := hT
      split at hA
      · rename_i n e hua
        simp only [Bool.and_eq_true, decide_eq_true_eq] at hA
        obtain ⟨⟨rfl, i3⟩, hsz⟩ := hA
        obtain ⟨ia, hia, hsa⟩ := info_of hsz
        obtain ⟨k1, p1⟩ := itB_prim i1
        obtain ⟨k2, p2⟩ := itB_prim i2
        obtain ⟨k3, p3⟩ := itB_prim i3
        have hf : P.fieldsOf T = fs := by simp [Program.fieldsOf, hu]
        have := run_equalIn_struct (P := P) w 9999 T s.cells.toArray t.cells.toArray (by rw [hf]; exact hu) h3
        have e : (Op.equal T s.val t.val).run P w = (Op.equalIn (9999 + 1) T (.agg s.cells.toArray) (.agg t.cells.toArray)).run P w := rfl
        rw [e, this, hf, hfs]
        have pa : ∀ u : Tm, (part h.type u.cells.toArray h.offset).run P w = .ok (.agg #[.int .i64 u.t0, .int .i64 u.t1]) w := fun u => by
          rw [o3]
          simp [part, isAgg, run_underlying hua, run_sizeOf w hia, hsa, Tm.cells, Program.cellsOf, hia]
        rw [run_eqFields_cons (r := decide (s.kind = t.kind)) n1 (run_part_one p1.one (v := .int .i64 s.kind) (by rw [o1]; rfl) w) (run_part_one p1.one (v := .int .i64 t.kind) (by rw [o1]; rfl) w) (run_eq_prim (dd := 9998) p1.1 (by simp [Instr.sameNow]; rfl) w)]
        rw [run_eqFields_cons (r := decide (s.a = t.a)) n2 (run_part_one p2.one (v := .int .i64 s.a) (by rw [o2]; rfl) w) (run_part_one p2.one (v := .int .i64 t.a) (by rw [o2]; rfl) w) (run_eq_prim (dd := 9998) p2.1 (by simp [Instr.sameNow]; rfl) w)]
        rw [run_eqFields_cons (r := decide (s.t0 = t.t0 ∧ s.t1 = t.t1)) n3 (pa s) (pa t) (run_equalIn_arr (dd := 9997) hua p3 rfl rfl (fun i a b ha hb => by
          match i, ha, hb with
          | 0, ha, hb => cases ha; cases hb; exact Tell.int
          | 1, ha, hb => cases ha; cases hb; exact Tell.int
          | i + 2, ha, _ => simp at ha) (by simp) w)]
        have e0 : (Op.eqFields 9999 s.cells.toArray t.cells.toArray []).run P w = .ok true w := by simp [Op.eqFields]
        rw [e0]
        obtain ⟨s1, s2, s3, s4⟩ := s
        obtain ⟨t1, t2, t3, t4⟩ := t
        simp only [Tm.mk.injEq, decide_eq_true_eq]
        by_cases q1 : s1 = t1
        · by_cases q2 : s2 = t2
          · by_cases q3 : s3 = t3 ∧ s4 = t4
            · simp [q1, q2, q3]
            · simp [q1, q2, q3]
          · simp [q1, q2]
        · simp [q1]
      · cases hA
    · cases hT
  · cases hT
theorem eqT {u : TypeId} {s t : Tm} (hT : stT P T = true) (hx : ev σ x = s.val := by exact rfl) (hy : ev σ y = t.val := by exact rfl) :
    Sd P w0 B ⟨d, .binOp .eql T x y u, ty, pos, af, gd⟩ σ L (.bool (decide (s = t))) := sp_val fun w => by
  obtain ⟨h1, h2⟩ := run_equal_tm hT s t w
  have h2' : ∀ a b : Array Value, (eqGuard .eql T x y (.agg a) (.agg b)).run P w = .ok () w := fun a b => eqGuard_agg h2
  simp only [execOp, hx, hy, binOp, Tm.val] at h1 ⊢
  simp [h2', h1]
end
theorem st_api_Term : stT Tryz.prog 30 = true := by kernel_rfl
end Go.Proofs.YtcojedoejpcolaaGreat

