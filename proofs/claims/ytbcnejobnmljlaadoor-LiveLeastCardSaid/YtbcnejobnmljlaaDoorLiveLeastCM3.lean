/- Part 3 of the proof of LiveLeastC: the texts DrawT, NRows, IrV, Flow, IrW, IrX, Que, IrR, IrU, IrT, LiveL, Live, Live2, LiveM, Live3, Pop, one behind the other. -/
import Derived.ArgAppend
import Derived.Test.YtbcnejobnmljlaaDoorLiveLeastCM2
/- A region whose order is drawn, in which an operation may take what another one made, or what was there (tokens), and turn it: one walk serves every order. -/
namespace Go.Proofs.YtbcnejobnmljlaaDoor
set_option linter.unusedVariables false
open Go Go.RowKit

def liveT (tk : Nat → Option Nat) (E : List Nat) : List Nat := E.filter fun c => !(E.any fun k => decide (tk k = some c))
theorem mem_liveT {tk : Nat → Option Nat} {E : List Nat} {c : Nat} : c ∈ liveT tk E ↔ c ∈ E ∧ ∀ k ∈ E, tk k ≠ some c := by
  unfold liveT
  simp [List.mem_filter]
def WkT (C : Ctx) (all : Array Oper) (ex : Nat → Option (Value → List Res → Prop)) (nd : Nat → List Nat) (tk : Nat → Option Nat) (u : Got) (L0 : List Res) : Nat → List Oper → Env → List Nat → (Env → List Nat → Prop) → Prop
  | _, [], σ, E, K => K σ E
  | k, o :: rest, σ, E, K =>
    bif wants all σ o then
      (∀ c ∈ nd k, c ∈ liveT tk E) ∧ okDst C.N o.dst = true ∧
      match ex k with
      | some V => Sp C.P C.w0 C.B o σ (needs u (nd k) L0) (Adds V (needs u ((nd k).filter fun c => !decide (tk k = some c)) L0)) ∧ WkT C all ex nd tk u L0 (k + 1) rest (updO σ o.dst (u k).1) (k :: E) K
      | none => ∃ v, Sd C.P C.w0 C.B o σ (needs u (nd k) L0) v ∧ WkT C all ex nd tk u L0 (k + 1) rest (updO σ o.dst v) E K
    else okDst C.N o.dst = true ∧ WkT C all ex nd tk u L0 (k + 1) rest (updO σ o.dst undef) E K
def StepT (C : Ctx) (all : Array Oper) (ex : Nat → Option (Value → List Res → Prop)) (nd : Nat → List Nat) (tk : Nat → Option Nat) (u : Got) (L0 : List Res) (k : Nat) (o : Oper) (σ : Env) (E : List Nat) (v : Value) : Prop :=
  okDst C.N o.dst = true ∧
  ((wants all σ o = true ∧ (∀ c ∈ nd k, c ∈ liveT tk E) ∧ ((∃ V, ex k = some V ∧ v = (u k).1 ∧ Sp C.P C.w0 C.B o σ (needs u (nd k) L0) (Adds V (needs u ((nd k).filter fun c => !decide (tk k = some c)) L0))) ∨ (ex k = none ∧ Sd C.P C.w0 C.B o σ (needs u (nd k) L0) v))) ∨
   (wants all σ o = false ∧ v = undef))
theorem WkT.vals {C : Ctx} {all : Array Oper} {ex : Nat → Option (Value → List Res → Prop)} {nd : Nat → List Nat} {tk : Nat → Option Nat} {u : Got} {L0 : List Res} {K : Env → List Nat → Prop} :
    ∀ (l : List Oper) (k : Nat) (σ : Env) (E : List Nat), WkT C all ex nd tk u L0 k l σ E K →
      ∃ vs : List Value, vs.length = l.length ∧ (∀ i o v, l[i]? = some o → vs[i]? = some v → StepT C all ex nd tk u L0 (k + i) o (envAt (l.take i) (vs.take i) σ) (exAt all ex k (l.take i) (vs.take i) σ E) v) ∧ K (envAt l vs σ) (exAt all ex k l vs σ E)
  | [], k, σ, E, h => ⟨[], rfl, fun i o v h => by simp at h, h⟩
  | o :: l, k, σ, E, h => by
    have key : ∀ v E', StepT C all ex nd tk u L0 k o σ E v → E' = made all ex k o σ E → WkT C all ex nd tk u L0 (k + 1) l (updO σ o.dst v) E' K →
        ∃ vs : List Value, vs.length = (o :: l).length ∧ (∀ i o' v, (o :: l)[i]? = some o' → vs[i]? = some v → StepT C all ex nd tk u L0 (k + i) o' (envAt ((o :: l).take i) (vs.take i) σ) (exAt all ex k ((o :: l).take i) (vs.take i) σ E) v) ∧ K (envAt (o :: l) vs σ) (exAt all ex k (o :: l) vs σ E) := by
      rintro v E' hs rfl hw
      obtain ⟨vs, h1, h2, h3⟩ := WkT.vals l (k + 1) _ _ hw
      refine ⟨v :: vs, by simp [h1], ?_, h3⟩
      intro i o' v' hi hv
      cases i with
      | zero =>
        simp only [List.getElem?_cons_zero, Option.some.injEq] at hi hv
        subst hi; subst hv
        exact hs
      | succ i =>
        have := h2 i o' v' (by simpa using hi) (by simpa using hv)
        rw [show k + 1 + i = k + (i + 1) from by omega] at this
        exact this
    unfold WkT at h
    cases hw : wants all σ o with
    | true =>
      simp only [hw, cond_true] at h
      obtain ⟨hn, hd, h⟩ := h
      cases hx : ex k with
      | some V =>
        simp only [hx] at h
        exact key (u k).1 (k :: E) ⟨hd, .inl ⟨hw, hn, .inl ⟨V, hx, rfl, h.1⟩⟩⟩ (by simp [made, hw, hx]) h.2
      | none =>
        simp only [hx] at h
        obtain ⟨v, hs, h⟩ := h
        exact key v E ⟨hd, .inl ⟨hw, hn, .inr ⟨hx, hs⟩⟩⟩ (by simp [made, hx]) h
    | false =>
      simp only [hw, cond_false] at h
      exact key undef E ⟨h.1, .inr ⟨hw, rfl⟩⟩ (by simp [made, hw]) h.2

/-! ### What must be so: a closed test -/
def drawOkT (ops : Array Oper) (m : Nat) (nd : Nat → List Nat) (tk : Nat → Option Nat) (E0 : List Nat) : Bool :=
  let b := bef ops
  drawOk ops m (fun k => (nd k).filter fun c => Nat.blt c 1000) && Nat.ble ops.size 1000 && (E0.eraseDups.length == E0.length) && E0.all (fun c => Nat.ble 1000 c && (tk c).isNone) &&
  (List.range m).all fun k => ((nd k).eraseDups.length == (nd k).length) && (nd k).all (fun c => Nat.blt c 1000 || E0.contains c) &&
    match tk k with
    | none => true
    | some c => (nd k).contains c && !(Nat.beq c k) && (List.range m).all fun j => Nat.beq j k || !(nd j).contains c || (Nat.blt j k && (b.getD k 0).testBit j)
structure OkT (ops : Array Oper) (m : Nat) (nd : Nat → List Nat) (tk : Nat → Option Nat) (E0 : List Nat) : Prop where
  ok : Ok ops m (fun k => (nd k).filter fun c => Nat.blt c 1000)
  big : ops.size ≤ 1000
  e0 : E0.Nodup
  tok : ∀ c ∈ E0, 1000 ≤ c ∧ tk c = none
  nodu : ∀ k, k < m → (nd k).Nodup
  has : ∀ k, k < m → ∀ c ∈ nd k, c < 1000 ∨ c ∈ E0
  tak : ∀ k, k < m → ∀ c, tk k = some c → c ∈ nd k ∧ c ≠ k ∧ ∀ j, j < m → j ≠ k → c ∈ nd j → j < k ∧ Anc ops k j
theorem OkT.mk' {ops : Array Oper} {m : Nat} {nd : Nat → List Nat} {tk : Nat → Option Nat} {E0 : List Nat} (h : drawOkT ops m nd tk E0 = true) : OkT ops m nd tk E0 := by
  unfold drawOkT at h
  simp only [Bool.and_eq_true, List.all_eq_true, beq_iff_eq, List.mem_range] at h
  obtain ⟨⟨⟨⟨h1, h2⟩, h3⟩, h4⟩, h5⟩ := h
  have blt_lt : ∀ {a b : Nat}, Nat.blt a b = true → a < b := fun h => Nat.le_of_ble_eq_true h
  refine ⟨Ok.mk' h1, Nat.le_of_ble_eq_true h2, eraseDups_nodup h3, fun c hc => ⟨Nat.le_of_ble_eq_true (h4 c hc).1, by simpa using (h4 c hc).2⟩, fun k hk => eraseDups_nodup (h5 k hk).1.1, fun k hk c hc => ?_, fun k hk c hc => ?_⟩
  · have := (h5 k hk).1.2 c hc
    simp only [Bool.or_eq_true, List.contains_eq_mem, decide_eq_true_eq] at this
    exact this.imp blt_lt id
  · have := (h5 k hk).2
    rw [hc] at this
    simp only [Bool.and_eq_true, List.contains_eq_mem, decide_eq_true_eq, List.all_eq_true, List.mem_range, Bool.or_eq_true, Bool.not_eq_true', decide_eq_false_iff_not] at this
    obtain ⟨⟨h6, h7⟩, h8⟩ := this
    refine ⟨h6, fun e => ?_, fun j hj hne hcj => ?_⟩
    · subst e
      simp [Nat.beq_refl] at h7
    · rcases h8 j hj with (h9 | h9) | h9
      · exact absurd (Nat.eq_of_beq_eq_true h9) hne
      · exact absurd hcj h9
      · exact ⟨blt_lt h9.1, bef_anc h9.2⟩

/-! ### Every order -/
section
variable {C : Ctx} {l : List Oper} {m : Nat} {nd : Nat → List Nat} {tk : Nat → Option Nat} {E0 : List Nat} {ex : Nat → Option (Value → List Res → Prop)} {σ : Env} {L0 : List Res} {K : Env → List Nat → Prop}
structure GoodT (C : Ctx) (l : List Oper) (m : Nat) (ex : Nat → Option (Value → List Res → Prop)) (nd : Nat → List Nat) (tk : Nat → Option Nat) (E0 : List Nat) (L0 : List Res) (σ : Env) (K : Got → Env → List Nat → Prop) (u : Got) (vs : List Value) : Prop where
  len : vs.length = (l.take m).length
  step : ∀ (i : Nat) (o : Oper) (v : Value), (l.take m)[i]? = some o → vs[i]? = some v → StepT C l.toArray ex nd tk u L0 i o (envAt ((l.take m).take i) (vs.take i) σ) (exAt l.toArray ex 0 ((l.take m).take i) (vs.take i) σ E0) v
  fin : K u (envAt (l.take m) vs σ) (exAt l.toArray ex 0 (l.take m) vs σ E0)
structure MidT (C : Ctx) (l : List Oper) (m : Nat) (ex : Nat → Option (Value → List Res → Prop)) (nd : Nat → List Nat) (tk : Nat → Option Nat) (E0 : List Nat) (L0 : List Res) (σ : Env) (K : Got → Env → List Nat → Prop) (listed : Array Bool) (u : Got) (Ex : List Nat) (a : Act) (w : World) : Prop where
  size : a.tmps.size = C.N
  valid : Valid ex u
  nodup : Ex.Nodup
  sub : ∀ c ∈ Ex, (c < m ∧ Ls listed c) ∨ c ∈ E0
  old : ∀ c ∈ E0, c ∈ Ex
  base : ∀ t, (∀ (j : Nat) (o : Oper), j < m → l[j]? = some o → Ls listed j → o.dst ≠ some t) → a.tmps.getD t undef = σ t
  vals : ∀ u', Valid ex u' → (∀ c ∈ Ex, u' c = u c) → ∀ vs, GoodT C l m ex nd tk E0 L0 σ K u' vs → ∀ (j : Nat) (o : Oper) (v : Value), j < m → l[j]? = some o → vs[j]? = some v → Ls listed j →
    (∀ t, o.dst = some t → a.tmps.getD t undef = v) ∧ (j ∈ Ex ↔ j ∈ exAt l.toArray ex 0 (l.take m) vs σ E0)
  heap : Hp C.w0 C.B (hid C a ++ needs u (liveT tk Ex) L0) w
theorem MidT.read {Kk : Got → Env → List Nat → Prop} {listed : Array Bool} {u : Got} {Ex : List Nat} {a : Act} {w : World} (ok : OkT l.toArray m nd tk E0) (h : MidT C l m ex nd tk E0 L0 σ Kk listed u Ex a w) (hc : Shut l.toArray listed) {i : Nat} (hi : i ∈ Region.ready .any l.toArray listed) (him : i < m) {o : Oper} (ho : l[i]? = some o)
    {u' : Got} (hu' : Valid ex u') (hag : ∀ c ∈ Ex, u' c = u c) {vs : List Value} (hg : GoodT C l m ex nd tk E0 L0 σ Kk u' vs) {t : Nat} (ht : ∀ (j : Nat) (o' : Oper), j < m → l[j]? = some o' → o'.dst = some t → j < i ∧ Anc l.toArray i j) :
    a.tmps.getD t undef = envAt ((l.take m).take i) (vs.take i) σ t := by
  by_cases hex : ∃ (j : Nat) (o' : Oper), j < m ∧ l[j]? = some o' ∧ o'.dst = some t
  · obtain ⟨j, o', hjm, hj, hd⟩ := hex
    obtain ⟨hlt, hanc⟩ := ht j o' hjm hj hd
    have hls := ready_anc hc hi hanc
    have hvl : j < vs.length := by
      rw [hg.len, List.length_take]
      have : j < l.length := (List.getElem?_eq_some_iff.1 hj).1
      omega
    have hv : vs[j]? = some vs[j] := List.getElem?_eq_getElem hvl
    rw [((h.vals u' hu' hag vs hg j o' _ hjm hj hv hls).1 t hd)]
    refine (envAt_one _ _ _ t j o' vs[j] ?_ ?_ hd ?_).symm
    · rw [List.getElem?_take, if_pos hlt]; exact take_get hjm hj
    · rw [List.getElem?_take, if_pos hlt]; exact hv
    · intro j' o'' hj' hne hd'
      obtain ⟨_, h2, h3⟩ := take_take_get hj'
      exact ok.ok.uniq j' o'' h2 (by simpa using h3) j o' hjm (by simpa using hj) (fun e => hne e.symm) t hd hd'
  · rw [h.base t (fun j o' hj ho' _ hd => hex ⟨j, o', hj, ho', hd⟩)]
    refine (envAt_none _ _ _ t fun j o' hj hd => ?_).symm
    obtain ⟨_, h2, h3⟩ := take_take_get hj
    exact hex ⟨j, o', h2, h3, hd⟩
theorem exAt_atT {vs : List Value} {i : Nat} {o : Oper} {v : Value} (hE : i ∉ E0) (ho : (l.take m)[i]? = some o) (hv : vs[i]? = some v) : i ∈ exAt l.toArray ex 0 (l.take m) vs σ E0 ↔ wants l.toArray (envAt ((l.take m).take i) (vs.take i) σ) o = true ∧ (ex i).isSome = true := by
  rw [exAt_mem]
  constructor
  · rintro (h | ⟨i', o', v', h1, h2, h3, h4, h5⟩)
    · exact absurd h hE
    · obtain rfl : i = i' := by omega
      rw [ho] at h1; cases h1
      exact ⟨h4, h5⟩
  · rintro ⟨h1, h2⟩
    exact .inr ⟨i, o, v, ho, hv, by omega, h1, h2⟩
theorem MidT.put {Kk : Got → Env → List Nat → Prop} {listed : Array Bool} {u u1 : Got} {Ex Ex1 : List Nat} {a : Act} {w w' : World} {i : Nat} {o : Oper} {v : Value} (ok : OkT l.toArray m nd tk E0) (h : MidT C l m ex nd tk E0 L0 σ Kk listed u Ex a w) (hlt : i < listed.size) (hi : ¬ Ls listed i) (him : i < m) (ho : l[i]? = some o) (hd : okDst C.N o.dst = true)
    (hv1 : Valid ex u1) (hnd : Ex1.Nodup) (hcase : (Ex1 = Ex ∧ u1 = u) ∨ (Ex1 = i :: Ex ∧ ∀ c ∈ Ex, u1 c = u c))
    (hvi : ∀ u', Valid ex u' → (∀ c ∈ Ex1, u' c = u1 c) → ∀ vs, GoodT C l m ex nd tk E0 L0 σ Kk u' vs → ∀ v', vs[i]? = some v' → v' = v ∧ (i ∈ Ex1 ↔ i ∈ exAt l.toArray ex 0 (l.take m) vs σ E0))
    (hh : Hp C.w0 C.B (hid C a ++ needs u1 (liveT tk Ex1) L0) w') : MidT C l m ex nd tk E0 L0 σ Kk (listed.setIfInBounds i true) u1 Ex1 (a.put o.dst v) w' := by
  refine ⟨by rw [put_size]; exact h.size, hv1, hnd, ?_, ?_, ?_, ?_, by rw [hid_put]; exact hh⟩
  · intro c hc
    rw [Ls.set_iff hlt]
    rcases hcase with ⟨rfl, _⟩ | ⟨rfl, _⟩
    · exact (h.sub c hc).imp (fun ⟨h1, h2⟩ => ⟨h1, .inr h2⟩) id
    · rcases List.mem_cons.1 hc with rfl | hc
      · exact .inl ⟨him, .inl rfl⟩
      · exact (h.sub c hc).imp (fun ⟨h1, h2⟩ => ⟨h1, .inr h2⟩) id
  · intro c hc
    rcases hcase with ⟨rfl, _⟩ | ⟨rfl, _⟩
    · exact h.old c hc
    · exact List.mem_cons_of_mem _ (h.old c hc)
  · intro t ht
    rw [put_read h.size hd, if_neg (ht i o him ho ((Ls.set_iff hlt).2 (.inl rfl)))]
    exact h.base t (fun j o' hj ho' hl => ht j o' hj ho' ((Ls.set_iff hlt).2 (.inr hl)))
  · intro u' hu' hag vs hg j o' v' hj ho' hv' hl
    have hag' : ∀ c ∈ Ex, u' c = u c := fun c hc => by
      rcases hcase with ⟨rfl, rfl⟩ | ⟨rfl, h2⟩
      · exact hag c hc
      · rw [hag c (by simp [hc]), h2 c hc]
    by_cases hij : j = i
    · subst hij
      rw [ho] at ho'; cases ho'
      obtain ⟨h1, h2⟩ := hvi u' hu' hag vs hg v' hv'
      subst h1
      exact ⟨fun t ht => by rw [put_read h.size hd, if_pos ht], h2⟩
    · rw [Ls.set_iff hlt] at hl
      have hl := hl.resolve_left hij
      obtain ⟨h1, h2⟩ := h.vals u' hu' hag' vs hg j o' v' hj ho' hv' hl
      refine ⟨fun t ht => ?_, ?_⟩
      · rw [put_read h.size hd, if_neg (ok.ok.uniq i o him (by simpa using ho) j o' hj (by simpa using ho') hij t ht)]
        exact h1 t ht
      · rw [← h2]
        rcases hcase with ⟨rfl, _⟩ | ⟨rfl, _⟩
        · exact Iff.rfl
        · simp [hij]
theorem live_perm {E E' : List Nat} (h : E.Perm E') : (liveT tk E).Perm (liveT tk E') := by
  unfold liveT
  have : (fun c => !(E.any fun k => decide (tk k = some c))) = fun c => !(E'.any fun k => decide (tk k = some c)) := by
    funext c
    congr 1
    rw [Bool.eq_iff_iff, List.any_eq_true, List.any_eq_true]
    exact ⟨fun ⟨k, h1, h2⟩ => ⟨k, h.mem_iff.1 h1, h2⟩, fun ⟨k, h1, h2⟩ => ⟨k, h.mem_iff.2 h1, h2⟩⟩
  rw [this]
  exact h.filter _
theorem needs_perm {u : Got} {E E' : List Nat} (h : E.Perm E') : (needs u E L0).Perm (needs u E' L0) := by
  unfold needs
  exact List.Perm.append_right _ (List.Perm.flatMap_right _ h)
theorem tail_anyT (ok : OkT l.toArray m nd tk E0) {F : Fence} {Q : Exit → Act → World → Prop} (fuel j : Nat) (listed : Array Bool) (a : Act) (w : World) (h1 : listed.size = l.length) (h2 : Shut l.toArray listed) (h3 : ∀ k, Ls listed k ↔ k < j) (h4 : m ≤ j) (h5 : j ≤ l.length) (h6 : l.length ≤ j + fuel)
    (h : wpListIn F 0 C.P l.toArray Q (l.drop j) a w) : wpAnyIn F 0 C.P .any l.toArray Q fuel listed a w := tail_any ok.ok fuel j listed a w h1 h2 h3 h4 h5 h6 h
theorem draw_endT {Q : Exit → Act → World → Prop} {Kk : Got → Env → List Nat → Prop} (ok : OkT l.toArray m nd tk E0) (hgood : ∀ u, Valid ex u → ∃ vs, GoodT C l m ex nd tk E0 L0 σ Kk u vs)
    (hK : ∀ u σ' E a w, Kk u σ' E → Agree a σ' → St C (needs u (liveT tk E) L0) a w → wpListIn (FR C.r) 0 C.P l.toArray Q (l.drop m) a w)
    (listed : Array Bool) (u : Got) (Ex : List Nat) (a : Act) (w : World) (fuel : Nat) (hs : listed.size = l.length) (hc : Shut l.toArray listed) (hm : ∀ k, Ls listed k → k < m) (hall : ∀ j, j < m → Ls listed j) (hf : l.length ≤ m + fuel)
    (h : MidT C l m ex nd tk E0 L0 σ Kk listed u Ex a w) : wpAnyIn (FR C.r) 0 C.P .any l.toArray Q fuel listed a w := by
  have hml : m ≤ l.length := by simpa using ok.ok.le
  have hbig : l.length ≤ 1000 := by simpa using ok.big
  obtain ⟨vs, hg⟩ := hgood u h.valid
  have hvl : vs.length = m := by rw [hg.len, List.length_take]; omega
  refine tail_anyT ok fuel m listed a w hs hc (fun k => ⟨hm k, hall k⟩) (Nat.le_refl _) hml hf ?_
  refine hK u _ _ a w hg.fin ?_ ⟨h.size, ?_⟩
  · intro t
    by_cases hex : ∃ (j : Nat) (o' : Oper), j < m ∧ l[j]? = some o' ∧ o'.dst = some t
    · obtain ⟨j, o', hjm, hj, hd⟩ := hex
      have hv : vs[j]? = some (vs[j]'(by omega)) := List.getElem?_eq_getElem (by omega)
      rw [(h.vals u h.valid (fun _ _ => rfl) vs hg j o' _ hjm hj hv (hall j hjm)).1 t hd]
      refine (envAt_one _ _ _ t j o' _ (take_get hjm hj) hv hd ?_).symm
      intro j' o'' hj' hne hd'
      obtain ⟨h2, h3⟩ := get_take hj'
      exact ok.ok.uniq j' o'' h2 (by simpa using h3) j o' hjm (by simpa using hj) (fun e => hne e.symm) t hd hd'
    · rw [h.base t (fun j o' hj ho' _ hd => hex ⟨j, o', hj, ho', hd⟩)]
      refine (envAt_none _ _ _ t fun j o' hj hd => ?_).symm
      obtain ⟨h2, h3⟩ := get_take hj
      exact hex ⟨j, o', h2, h3, hd⟩
  · refine h.heap.perm (List.Perm.append_left _ (needs_perm (live_perm ?_)))
    refine (List.perm_ext_iff_of_nodup h.nodup (exAt_nodupT _ _ _ _ _ ok.e0 (fun c hc => .inr (by have := (ok.tok c hc).1; simp; omega)))).2 fun c => ?_
    have key : ∀ c, c < m → (c ∈ Ex ↔ c ∈ exAt l.toArray ex 0 (l.take m) vs σ E0) := fun c hc =>
      (h.vals u h.valid (fun _ _ => rfl) vs hg c l[c] (vs[c]'(by omega)) hc (List.getElem?_eq_getElem (by omega)) (List.getElem?_eq_getElem (by omega)) (hall c hc)).2
    constructor
    · intro hcm
      rcases h.sub c hcm with h1 | h1
      · exact (key c h1.1).1 hcm
      · exact (exAt_mem _ _ _ _ _ _).2 (.inl h1)
    · intro hcm
      rcases (exAt_mem _ _ _ _ _ _).1 hcm with h0 | ⟨i, o, v, h1, _, h3, _⟩
      · exact h.old c h0
      · exact (key c (by have := (get_take h1).1; omega)).2 hcm
where
  exAt_nodupT : ∀ (l' : List Oper) (vs : List Value) (k : Nat) (σ : Env) (E : List Nat), E.Nodup → (∀ c ∈ E, c < k ∨ k + l'.length ≤ c) → (exAt l.toArray ex k l' vs σ E).Nodup
    | [], _, _, _, _, h, _ => by simpa [exAt] using h
    | _ :: _, [], _, _, _, h, _ => by simpa [exAt] using h
    | o :: l', v :: vs, k, σ, E, h, hk => by
      rw [exAt]
      simp only [List.length_cons] at hk
      refine exAt_nodupT l' vs (k + 1) _ _ ?_ ?_
      · unfold made; split
        · exact List.nodup_cons.2 ⟨fun hc => by rcases hk k hc with h' | h' <;> omega, h⟩
        · exact h
      · intro c hc
        unfold made at hc; split at hc
        · rcases List.mem_cons.1 hc with rfl | hc
          · omega
          · rcases hk c hc with h' | h' <;> omega
        · rcases hk c hc with h' | h' <;> omega
theorem draw_anyT {Q : Exit → Act → World → Prop} {Kk : Got → Env → List Nat → Prop} (ok : OkT l.toArray m nd tk E0) (hgood : ∀ u, Valid ex u → ∃ vs, GoodT C l m ex nd tk E0 L0 σ Kk u vs)
    (hK : ∀ u σ' E a w, Kk u σ' E → Agree a σ' → St C (needs u (liveT tk E) L0) a w → wpListIn (FR C.r) 0 C.P l.toArray Q (l.drop m) a w) :
    ∀ (fuel : Nat) (listed : Array Bool) (u : Got) (Ex : List Nat) (a : Act) (w : World), listed.size = l.length → Shut l.toArray listed → (∀ k, Ls listed k → k < m) → listed.toList.countP (fun b => !b) ≤ fuel →
      MidT C l m ex nd tk E0 L0 σ Kk listed u Ex a w → wpAnyIn (FR C.r) 0 C.P .any l.toArray Q fuel listed a w := by
  have hml : m ≤ l.length := by simpa using ok.ok.le
  have hbig : l.length ≤ 1000 := by simpa using ok.big
  have hnE : ∀ i, i < m → i ∉ E0 := fun i hi hE => by have := (ok.tok i hE).1; omega
  have hcount : ∀ (listed : Array Bool), listed.size = l.length → (∀ k, Ls listed k → k < m) → l.length - m ≤ listed.toList.countP (fun b => !b) := fun listed hs hm => by
    have h1 : (listed.toList.drop m).countP (fun b => !b) ≤ listed.toList.countP (fun b => !b) := (List.drop_sublist m _).countP_le
    have h2 : (listed.toList.drop m).countP (fun b => !b) = (listed.toList.drop m).length := by
      rw [List.countP_eq_length]
      intro b hb
      obtain ⟨j, hj⟩ := List.getElem?_of_mem hb
      rw [List.getElem?_drop] at hj
      cases b with
      | false => rfl
      | true =>
        have : Ls listed (m + j) := by
          unfold Ls
          rw [Array.getD_eq_getD_getElem?, ← Array.getElem?_toList, hj]; rfl
        have := hm _ this
        omega
    rw [List.length_drop, Array.length_toList, hs] at h2
    omega
  intro fuel
  induction fuel with
  | zero =>
    intro listed u Ex a w hs hc hm hcnt h
    have hml' := hcount listed hs hm
    refine draw_endT ok hgood hK listed u Ex a w 0 hs hc hm (fun j hj => ?_) (by omega) h
    have h0 : listed.toList.countP (fun b => !b) = 0 := by omega
    rw [List.countP_eq_zero] at h0
    have := h0 (listed[j]'(by omega)) (by simp)
    unfold Ls
    rw [Array.getD_eq_getD_getElem?, Array.getElem?_eq_getElem (by omega)]
    simpa using this
  | succ fuel ih =>
    intro listed u Ex a w hs hc hm hcnt h
    have hml' := hcount listed hs hm
    by_cases hall : ∀ j, j < m → Ls listed j
    · exact draw_endT ok hgood hK listed u Ex a w (fuel + 1) hs hc hm hall (by omega) h
    refine ⟨fun hr => absurd (fun j hj => all_listed ok.ok (by simpa using hs) hr j (by simp; omega)) hall, fun i hi => ?_⟩
    obtain ⟨h1, o, ho', _⟩ := mem_ready.1 hi
    have ho : l[i]? = some o := by simpa using ho'
    have hil : i < l.length := (List.getElem?_eq_some_iff.1 ho).1
    have hni : ¬ Ls listed i := (not_ls (by omega)).2 h1
    have him : i < m := by
      rcases Nat.lt_or_ge i m with h' | h'
      · exact h'
      · exact absurd (fun j hj => ready_anc hc hi (ok.ok.tail i o h' ho' j (by omega))) hall
    have hc' := hc.set hi (by omega)
    have hm' : ∀ k, Ls (listed.setIfInBounds i true) k → k < m := fun k hk => by
      rcases (Ls.set_iff (by omega)).1 hk with rfl | hk
      · exact him
      · exact hm k hk
    have hcnt' : (listed.setIfInBounds i true).toList.countP (fun b => !b) ≤ fuel := by
      have hb : listed.toList[i]'(by simp; omega) = false := by
        have := h1
        rw [Array.getD_eq_getD_getElem?, Array.getElem?_eq_getElem (by omega)] at this
        simpa using this
      have hpos : 0 < listed.toList.countP (fun b => !b) := List.countP_pos_iff.2 ⟨false, by rw [← hb]; exact List.getElem_mem _, rfl⟩
      have e := List.countP_set (p := fun b : Bool => !b) (l := listed.toList) (i := i) (a := true) (by simp; omega)
      rw [hb] at e
      rw [Array.toList_setIfInBounds, e]
      show _ - 1 + 0 ≤ fuel
      omega
    have goOn := fun u1 Ex1 a1 w1 => ih (listed.setIfInBounds i true) u1 Ex1 a1 w1 (by simpa using hs) hc' hm' hcnt'
    have hread : ∀ u', Valid ex u' → (∀ c ∈ Ex, u' c = u c) → ∀ vs, GoodT C l m ex nd tk E0 L0 σ Kk u' vs → (∀ x ∈ o.op.operands, ev (fun t => a.tmps.getD t undef) x = ev (envAt ((l.take m).take i) (vs.take i) σ) x) ∧ wants l.toArray (fun t => a.tmps.getD t undef) o = wants l.toArray (envAt ((l.take m).take i) (vs.take i) σ) o := fun u' hu' hag vs hg => by
      refine ⟨fun x hx => ?_, wants_congr fun g b hgd tg htg => ?_⟩
      · cases x with
        | tmp t => exact h.read ok hc hi him ho hu' hag hg (fun j o' hj hjo hd => ok.ok.look i o him ho' j o' hj (by simpa using hjo) t hd hx)
        | _ => rfl
      · exact h.read ok hc hi him ho hu' hag hg (fun j o' hj hjo hd => ok.ok.gard i o him ho' g b hgd tg htg j o' hj (by simpa using hjo) hd)
    have hexec : ∀ u', Valid ex u' → (∀ c ∈ Ex, u' c = u c) → ∀ vs, GoodT C l m ex nd tk E0 L0 σ Kk u' vs → execOp (ev (fun t => a.tmps.getD t undef)) o = execOp (ev (envAt ((l.take m).take i) (vs.take i) σ)) o := fun u' hu' hag vs hg =>
      execOp_congr o (ok.ok.sel i o ho') (hread u' hu' hag vs hg).1
    have hat : ∀ vs : List Value, vs.length = (l.take m).length → ∃ v, vs[i]? = some v := fun vs hl => ⟨vs[i]'(by rw [hl, List.length_take]; omega), List.getElem?_eq_getElem _⟩
    -- no one who has run takes what i reads, but i itself
    have hfree : ∀ c ∈ nd i, ∀ k ∈ Ex, tk k ≠ some c := fun c hcn k hk hkc => by
      rcases h.sub k hk with ⟨hkm, hkl⟩ | hk0
      · have h2 := ok.tak k hkm c hkc
        have hki : i ≠ k := fun e => hni (e ▸ hkl)
        have h3 := (h2.2.2 i him hki hcn).2
        exact hni (anc_in (D := Ls listed) hc h3 (hc k hkl))
      · rw [(ok.tok k hk0).2] at hkc; cases hkc
    have hneed : ∀ u' vs, Valid ex u' → (∀ c ∈ Ex, u' c = u c) → GoodT C l m ex nd tk E0 L0 σ Kk u' vs → (∀ c ∈ nd i, c ∈ liveT tk (exAt l.toArray ex 0 ((l.take m).take i) (vs.take i) σ E0)) →
        ∃ Rl : List Nat, (liveT tk Ex).Perm (nd i ++ Rl) ∧ Hp C.w0 C.B ((hid C a ++ Rl.flatMap fun c => (u c).2) ++ needs u' (nd i) L0) w := fun u' vs hu' hag hg hn => by
      have hsub : ∀ c ∈ nd i, c ∈ liveT tk Ex := fun c hcn => by
        refine mem_liveT.2 ⟨?_, hfree c hcn⟩
        rcases ok.has i him c hcn with hc1 | hc1
        · have hcn' : c ∈ (nd i).filter fun c => Nat.blt c 1000 := List.mem_filter.2 ⟨hcn, Nat.ble_eq_true_of_le hc1⟩
          have hcl := ready_anc hc hi (ok.ok.need i o him ho' c hcn').2
          have hci := (ok.ok.need i o him ho' c hcn').1
          have hcm : c < m := by omega
          obtain ⟨v, hv⟩ : ∃ v, vs[c]? = some v := ⟨vs[c]'(by rw [hg.len, List.length_take]; omega), List.getElem?_eq_getElem _⟩
          refine ((h.vals u' hu' hag vs hg c l[c] v hcm (List.getElem?_eq_getElem (by omega)) hv hcl).2).2 ?_
          rcases (exAt_mem _ _ _ _ _ _).1 (mem_liveT.1 (hn c hcn)).1 with h0 | ⟨j, o', v', h2, h3, h4, h5, h6⟩
          · have := (ok.tok c h0).1; omega
          · obtain ⟨hji, hjm, hjl⟩ := take_take_get h2
            refine (exAt_mem _ _ _ _ _ _).2 (.inr ⟨j, o', v', take_get hjm hjl, ?_, h4, ?_, h6⟩)
            · rw [List.getElem?_take, if_pos hji] at h3; exact h3
            · have e1 : ((l.take m).take i).take j = (l.take m).take j := by rw [List.take_take, Nat.min_eq_left (by omega)]
              have e2 : (vs.take i).take j = vs.take j := by rw [List.take_take, Nat.min_eq_left (by omega)]
              rw [e1, e2] at h5; exact h5
        · exact h.old c hc1
      have hnd : (liveT tk Ex).Nodup := h.nodup.filter _
      obtain ⟨R, hp⟩ := perm_needs hsub (ok.nodu i him) hnd
      have hfl : ∀ E : List Nat, (∀ c ∈ E, c ∈ Ex) → E.flatMap (fun c => (u c).2) = E.flatMap (fun c => (u' c).2) := fun E hE => by
        induction E with
        | nil => rfl
        | cons c E ihE =>
          rw [List.flatMap_cons, List.flatMap_cons, hag c (hE c (by simp)), ihE (fun d hd => hE d (by simp [hd]))]
      have hpp : (needs u (liveT tk Ex) L0).Perm ((R.flatMap fun c => (u c).2) ++ needs u' (nd i) L0) := by
        unfold needs
        rw [← hfl (nd i) (fun c hcn => (mem_liveT.1 (hsub c hcn)).1), ← List.append_assoc]
        refine List.Perm.append_right _ ((List.Perm.flatMap_right _ hp).trans ?_)
        rw [List.flatMap_append]
        exact List.perm_append_comm
      refine ⟨R, hp, h.heap.perm ?_⟩
      rw [List.append_assoc]
      exact List.Perm.append_left _ hpp
    obtain ⟨vs, hg⟩ := hgood u h.valid
    obtain ⟨v, hv⟩ := hat vs hg.len
    have hstep := hg.step i o v (take_get him ho) hv
    obtain ⟨hd, hstep⟩ := hstep
    unfold wpOpIn
    rw [ho']
    simp only
    rcases hstep with ⟨hw, hn, hcase⟩ | ⟨hw, rfl⟩
    · rw [if_pos (wanted_eq (Agree.refl a) (by rw [(hread u h.valid (fun _ _ => rfl) vs hg).2]; exact hw))]
      obtain ⟨R, hp, hhp⟩ := hneed u vs h.valid (fun _ _ => rfl) hg hn
      rcases hcase with ⟨V, hx, rfl, hsp⟩ | ⟨hx, hsd⟩
      · have hgo := hsp _ w hhp
        rw [← hexec u h.valid (fun _ _ => rfl) vs hg] at hgo
        refine hgo.wpIn (Agree.refl a) ?_
        rintro v' w' ⟨L', hh', T, rfl, hV⟩
        have hniE : i ∉ Ex := fun hiE => by
          rcases h.sub i hiE with h2 | h2
          · exact hni h2.2
          · exact hnE i him h2
        have hval : Valid ex (fun c => if c = i then (v', T) else u c) := fun k V' hk => by
          by_cases hki : k = i
          · subst hki; rw [hx] at hk; cases hk; simpa using hV
          · simp only [if_neg hki]; exact h.valid k V' hk
        have hsame : ∀ c ∈ Ex, (if c = i then (v', T) else u c) = u c := fun c hcE => if_neg (fun e : c = i => hniE (e ▸ hcE))
        refine goOn (fun c => if c = i then (v', T) else u c) (i :: Ex) _ _ ?_
        refine h.put ok (by omega) hni him ho hd hval (List.nodup_cons.2 ⟨hniE, h.nodup⟩) (.inr ⟨rfl, hsame⟩) ?_ ?_
        · intro u' hu' hag vs' hg' v2 hv2
          have hag' : ∀ c ∈ Ex, u' c = u c := fun c hcE => by rw [hag c (by simp [hcE]), hsame c hcE]
          obtain ⟨_, hs2⟩ := hg'.step i o v2 (take_get him ho) hv2
          have hw2 : wants l.toArray (envAt ((l.take m).take i) (vs'.take i) σ) o = true := by
            rw [← (hread u' hu' hag' vs' hg').2, (hread u h.valid (fun _ _ => rfl) vs hg).2]; exact hw
          refine ⟨?_, by simp [exAt_atT (hnE i him) (take_get him ho) hv2, hw2, hx]⟩
          rcases hs2 with ⟨_, _, ⟨V2, hx2, rfl, _⟩ | ⟨hx2, _⟩⟩ | ⟨hw3, _⟩
          · have := hag i (by simp)
            rw [this]; simp
          · rw [hx] at hx2; cases hx2
          · rw [hw2] at hw3; cases hw3
        · refine hh'.perm ?_
          rw [List.append_assoc]
          refine List.Perm.append_left _ ?_
          -- what lives behind it
          have hlive : (liveT tk (i :: Ex)).Perm (i :: ((nd i).filter (fun c => !decide (tk i = some c)) ++ R)) := by
            have e0 : liveT tk (i :: Ex) = i :: (liveT tk Ex).filter (fun c => !decide (tk i = some c)) := by
              unfold liveT
              have hii : (!((i :: Ex).any fun k => decide (tk k = some i))) = true := by
                simp only [Bool.not_eq_true', List.any_eq_false, List.mem_cons, decide_eq_true_eq]
                rintro k (rfl | hk) hkc
                · exact (ok.tak _ him _ hkc).2.1 rfl
                · rcases h.sub k hk with ⟨hkm, hkl⟩ | hk0
                  · have h2 := ok.tak k hkm i hkc
                    have h4 : i ∈ (nd k).filter fun c => Nat.blt c 1000 := List.mem_filter.2 ⟨h2.1, Nat.ble_eq_true_of_le (by omega)⟩
                    obtain ⟨ok', hok'⟩ : ∃ o', l[k]? = some o' := ⟨l[k]'(by omega), List.getElem?_eq_getElem (by omega)⟩
                    have h3 := (ok.ok.need k ok' hkm (by simpa using hok') i h4).2
                    exact hni (anc_in (D := Ls listed) hc h3 (hc k hkl))
                  · rw [(ok.tok k hk0).2] at hkc; cases hkc
              rw [List.filter_cons, if_pos hii]
              congr 1
              rw [List.filter_filter]
              apply List.filter_congr
              intro c _
              simp only [List.any_cons, Bool.not_or]
            rw [e0]
            refine List.Perm.cons _ ?_
            refine (hp.filter _).trans ?_
            rw [List.filter_append]
            refine List.Perm.append_left _ ?_
            have : R.filter (fun c => !decide (tk i = some c)) = R := by
              rw [List.filter_eq_self]
              intro c hcR
              simp only [Bool.not_eq_true', decide_eq_false_iff_not]
              intro hkc
              have h2 := (ok.tak i him c hkc).1
              have hnd : (nd i ++ R).Nodup := hp.nodup_iff.1 (h.nodup.filter _)
              exact (List.nodup_append.1 hnd).2.2 c h2 c hcR rfl
            rw [this]
          have hRE : ∀ c ∈ (nd i).filter (fun c => !decide (tk i = some c)) ++ R, c ∈ Ex := fun c hcc => by
            have : c ∈ nd i ++ R := by
              rcases List.mem_append.1 hcc with h2 | h2
              · exact List.mem_append_left _ (List.mem_filter.1 h2).1
              · exact List.mem_append_right _ h2
            exact (mem_liveT.1 (hp.mem_iff.2 this)).1
          have e1 : ∀ E : List Nat, (∀ c ∈ E, c ∈ Ex) → E.flatMap (fun c => (if c = i then (v', T) else u c).2) = E.flatMap (fun c => (u c).2) := fun E hE => by
            induction E with
            | nil => rfl
            | cons c E ihE => rw [List.flatMap_cons, List.flatMap_cons, hsame c (hE c (by simp)), ihE (fun d hd => hE d (by simp [hd]))]
          have e2 : needs (fun c => if c = i then (v', T) else u c) (i :: ((nd i).filter (fun c => !decide (tk i = some c)) ++ R)) L0 = T ++ (((nd i).filter (fun c => !decide (tk i = some c))).flatMap (fun c => (u c).2) ++ (R.flatMap (fun c => (u c).2) ++ L0)) := by
            unfold needs
            rw [List.flatMap_cons, e1 _ hRE, List.flatMap_append]
            simp
          refine List.Perm.trans ?_ (needs_perm hlive.symm)
          rw [e2]
          unfold needs
          refine List.Perm.trans List.perm_append_comm ?_
          rw [List.append_assoc, List.append_assoc]
          refine List.Perm.append_left _ (List.Perm.append_left _ List.perm_append_comm)
      · have hrun := hsd _ w hhp
        rw [← hexec u h.valid (fun _ _ => rfl) vs hg] at hrun
        have hgo : Goes C.P ((execOp (ev (fun t => a.tmps.getD t undef)) o).run C.P w) (fun v' w' => v' = v ∧ w' = w) := .inl ⟨v, w, hrun, rfl, rfl⟩
        refine hgo.wpIn (Agree.refl a) ?_
        rintro v' w' ⟨rfl, rfl⟩
        have hniE : i ∉ Ex := fun hiE => by
          rcases h.sub i hiE with h2 | h2
          · exact hni h2.2
          · exact hnE i him h2
        refine goOn u Ex _ _ (h.put ok (by omega) hni him ho hd h.valid h.nodup (.inl ⟨rfl, rfl⟩) ?_ h.heap)
        intro u' hu' hag vs' hg' v2 hv2
        obtain ⟨_, hs2⟩ := hg'.step i o v2 (take_get him ho) hv2
        have hw2 : wants l.toArray (envAt ((l.take m).take i) (vs'.take i) σ) o = true := by
          rw [← (hread u' hu' hag vs' hg').2, (hread u h.valid (fun _ _ => rfl) vs hg).2]; exact hw
        refine ⟨?_, by simp [exAt_atT (hnE i him) (take_get him ho) hv2, hx, hniE]⟩
        rcases hs2 with ⟨_, hn2, ⟨V2, hx2, _, _⟩ | ⟨_, hsd2⟩⟩ | ⟨hw3, _⟩
        · rw [hx] at hx2; cases hx2
        · obtain ⟨R2, _, hhp2⟩ := hneed u' vs' hu' hag hg' hn2
          have hrun2 := hsd2 _ w' hhp2
          rw [← hexec u' hu' hag vs' hg', hrun] at hrun2
          injection hrun2 with h5
          injection h5 with h5
          exact h5.symm
        · rw [hw2] at hw3; cases hw3
    · rw [if_neg (by rw [wanted_ne (Agree.refl a) (by rw [(hread u h.valid (fun _ _ => rfl) vs hg).2]; exact hw)]; simp)]
      have hniE : i ∉ Ex := fun hiE => by
        rcases h.sub i hiE with h2 | h2
        · exact hni h2.2
        · exact hnE i him h2
      refine ⟨fun _ _ => trivial, goOn u Ex _ _ (h.put ok (by omega) hni him ho hd h.valid h.nodup (.inl ⟨rfl, rfl⟩) ?_ h.heap)⟩
      intro u' hu' hag vs' hg' v2 hv2
      obtain ⟨_, hs2⟩ := hg'.step i o v2 (take_get him ho) hv2
      have hw2 : wants l.toArray (envAt ((l.take m).take i) (vs'.take i) σ) o = false := by
        rw [← (hread u' hu' hag vs' hg').2, (hread u h.valid (fun _ _ => rfl) vs hg).2]; exact hw
      refine ⟨?_, by simp [exAt_atT (hnE i him) (take_get him ho) hv2, hw2, hniE]⟩
      rcases hs2 with ⟨hw3, _⟩ | ⟨_, h5⟩
      · rw [hw2] at hw3; cases hw3
      · exact h5
end
/-- **A REGION WHOSE ORDER IS DRAWN**, what was there in tokens E0: token c holds T0 c. -/
theorem Cd.drawT {C : Ctx} {Q : Exit → Env → List Res → Prop} {id : Nat} {l : List Oper} {σ : Env} {L L0 : List Res} (hm : C.P.follows .mixedOrders = true) (m : Nat) (ex : Nat → Option (Value → List Res → Prop)) (nd : Nat → List Nat) (tk : Nat → Option Nat) (E0 : List Nat) (T0 : Nat → List Res) (hok : drawOkT l.toArray m nd tk E0 = true)
    (hL : L.Perm (E0.flatMap T0 ++ L0)) (hex : ∀ c ∈ E0, ex c = some (fun v R => v = undef ∧ R = T0 c)) (hin : ∀ k V, ex k = some V → ∃ v R, V v R)
    (h : ∀ u : Got, Valid ex u → (∀ c ∈ E0, u c = (undef, T0 c)) → WkT C l.toArray ex nd tk u L0 0 (l.take m) σ E0 (fun σ' E => Ol C l.toArray (l.drop m) (fun σ L => Q .normal σ L) σ' (needs u (liveT tk E) L0))) :
    Cd C (.region id l.toArray true) Q σ L := by
  intro a w ha hs
  refine wpIn_region_any hm ?_
  have ok : OkT l.toArray m nd tk E0 := OkT.mk' hok
  have hu0e : ∀ u, Valid ex u → ∀ c ∈ E0, u c = (undef, T0 c) := fun u hu c hc => by
    obtain ⟨h1, h2⟩ := hu c _ (hex c hc)
    rw [← h1, ← h2]
  have hgood : ∀ u, Valid ex u → ∃ vs, GoodT C l m ex nd tk E0 L0 σ (fun u σ' E => Ol C l.toArray (l.drop m) (fun σ L => Q .normal σ L) σ' (needs u (liveT tk E) L0)) u vs := fun u hu => by
    obtain ⟨vs, h1, h2, h3⟩ := (h u hu (hu0e u hu)).vals
    exact ⟨vs, h1, fun i o v hi hv => by simpa using h2 i o v hi hv, h3⟩
  have hu0 : ∃ u : Got, Valid ex u := by
    refine ⟨fun k => match hx : ex k with
      | some V => (Classical.choose (hin k V hx), Classical.choose (Classical.choose_spec (hin k V hx)))
      | none => (undef, []), fun k V hk => ?_⟩
    have := Classical.choose_spec (Classical.choose_spec (hin k V hk))
    simp only
    split
    · rename_i V' hx
      rw [hk] at hx
      cases hx
      exact this
    · rename_i hx; rw [hk] at hx; cases hx
  obtain ⟨u, hu⟩ := hu0
  have hlive : liveT tk E0 = E0 := by
    unfold liveT
    rw [List.filter_eq_self]
    intro c _
    simp only [Bool.not_eq_true', List.any_eq_false, decide_eq_true_eq]
    intro k hk hkc
    rw [(ok.tok k hk).2] at hkc; cases hkc
  have hneeds : needs u E0 L0 = E0.flatMap T0 ++ L0 := by
    unfold needs
    congr 1
    have : ∀ E : List Nat, (∀ c ∈ E, c ∈ E0) → E.flatMap (fun c => (u c).2) = E.flatMap T0 := fun E hE => by
      induction E with
      | nil => rfl
      | cons c E ihE => rw [List.flatMap_cons, List.flatMap_cons, hu0e u hu c (hE c (by simp)), ihE (fun d hd => hE d (by simp [hd]))]
    exact this E0 (fun _ h => h)
  refine draw_anyT (nd := nd) (tk := tk) (E0 := E0) (ex := ex) (σ := σ) (L0 := L0) ok hgood (fun u σ' E a w hk ha hs => hk a w _ ha hs fun a' w' σ'' L' h1 h2 h3 => ⟨σ'', L', h1, h2, h3⟩) l.toArray.size (Array.replicate l.toArray.size false) u E0 a _ (by simp) ?_ ?_ ?_ ⟨hs.size, hu, ok.e0, fun c hc => .inr hc, fun c hc => hc, fun t _ => ha t, ?_, ?_⟩
  · intro k hk
    exact (ls_rep hk).elim
  · intro k hk
    exact (ls_rep hk).elim
  · simp only [Array.toList_replicate]
    exact Nat.le_trans List.countP_le_length (by simp)
  · intro u' _ _ vs _ j o v _ _ _ hl
    exact (ls_rep hl).elim
  · rw [hlive, hneeds]
    exact (hs.heap.step (Stp.drew w)).perm (List.Perm.append_left _ hL)
/-! ### The walk's steps -/
section
variable {C : Ctx} {all : Array Oper} {ex : Nat → Option (Value → List Res → Prop)} {nd : Nat → List Nat} {tk : Nat → Option Nat} {u : Got} {L0 : List Res} {k : Nat} {rest : List Oper} {σ : Env} {E : List Nat} {K : Env → List Nat → Prop} {op : Op} {d : Option Nat} {ty : TypeId} {pos : String} {af : Array Edge} {gd : Option (Nat × Bool)} {v : Value}
theorem WkT.nil (h : K σ E) : WkT C all ex nd tk u L0 k [] σ E K := h
theorem WkT.goN {l : List Nat} (hw : wants all σ ⟨d, op, ty, pos, af, gd⟩ = true) (h : Sd C.P C.w0 C.B ⟨d, op, ty, pos, af, gd⟩ σ (needs u l L0) v) (hk : WkT C all ex nd tk u L0 (k + 1) rest (updO σ d v) E K)
    (hd : okDst C.N d = true) (hx : ex k = none) (hn : nd k = l) (hE : ∀ c ∈ l, c ∈ liveT tk E) : WkT C all ex nd tk u L0 k (⟨d, op, ty, pos, af, gd⟩ :: rest) σ E K := by
  unfold WkT
  simp only [hw, cond_true, hx, hn]
  exact ⟨hE, hd, v, h, hk⟩
theorem WkT.goX {l l2 : List Nat} {V : Value → List Res → Prop} (hw : wants all σ ⟨d, op, ty, pos, af, gd⟩ = true) (hu : Valid ex u) (hx : ex k = some V) (hn : nd k = l) (h2 : (l.filter fun c => !decide (tk k = some c)) = l2) (hE : ∀ c ∈ l, c ∈ liveT tk E)
    (h : Sp C.P C.w0 C.B ⟨d, op, ty, pos, af, gd⟩ σ (needs u l L0) (Adds V (needs u l2 L0))) (hk : ∀ v T, u k = (v, T) → V v T → WkT C all ex nd tk u L0 (k + 1) rest (updO σ d v) (k :: E) K)
    (hd : okDst C.N d = true) : WkT C all ex nd tk u L0 k (⟨d, op, ty, pos, af, gd⟩ :: rest) σ E K := by
  unfold WkT
  simp only [hw, cond_true, hx, hn, h2]
  exact ⟨hE, hd, h, hk _ _ rfl (hu k V hx)⟩
theorem WkT.p (h : Sd C.P C.w0 C.B ⟨d, op, ty, pos, af, none⟩ σ L0 v) (hk : WkT C all ex nd tk u L0 (k + 1) rest (updO σ d v) E K) (hd : okDst C.N d = true := by rfl) (hx : ex k = none := by rfl) (hn : nd k = [] := by rfl) :
    WkT C all ex nd tk u L0 k (⟨d, op, ty, pos, af, none⟩ :: rest) σ E K := WkT.goN (l := []) rfl h hk hd hx hn (fun c h => by cases h)
theorem WkT.pn {l : List Nat} (hn : nd k = l) (hE : (l.all fun c => (liveT tk E).contains c) = true) (h : Sd C.P C.w0 C.B ⟨d, op, ty, pos, af, none⟩ σ (needs u l L0) v) (hk : WkT C all ex nd tk u L0 (k + 1) rest (updO σ d v) E K) (hd : okDst C.N d = true := by rfl) (hx : ex k = none := by rfl) :
    WkT C all ex nd tk u L0 k (⟨d, op, ty, pos, af, none⟩ :: rest) σ E K := WkT.goN rfl h hk hd hx hn (fun c hc => by simpa using List.all_eq_true.1 hE c hc)
theorem WkT.xn {l l2 : List Nat} {V : Value → List Res → Prop} (hu : Valid ex u) (hn : nd k = l) (h2 : (l.filter fun c => !decide (tk k = some c)) = l2) (hE : (l.all fun c => (liveT tk E).contains c) = true) (h : Sp C.P C.w0 C.B ⟨d, op, ty, pos, af, none⟩ σ (needs u l L0) (Adds V (needs u l2 L0))) (hk : ∀ v T, u k = (v, T) → V v T → WkT C all ex nd tk u L0 (k + 1) rest (updO σ d v) (k :: E) K)
    (hd : okDst C.N d = true := by rfl) (hx : ex k = some V := by rfl) : WkT C all ex nd tk u L0 k (⟨d, op, ty, pos, af, none⟩ :: rest) σ E K :=
  WkT.goX rfl hu hx hn h2 (fun c hc => by simpa using List.all_eq_true.1 hE c hc) h hk hd
end
end Go.Proofs.YtbcnejobnmljlaaDoor

/- Many rows of numbers of one's own, one behind the other among what is held; arrays told by a function. Over any program. -/
namespace Go.Proofs.YtbcnejobnmljlaaDoor
set_option linter.unusedVariables false
open Go Go.RowKit

/-- Cells told by a function. -/
def rngV (n : Nat) (h : Nat → Value) : Array Value := ((List.range n).map h).toArray
theorem rngV_size (n : Nat) (h : Nat → Value) : (rngV n h).size = n := by simp [rngV]
theorem rngV_get {n : Nat} {h : Nat → Value} {i : Nat} (hi : i < n) : (rngV n h)[i]? = some (h i) := by simp [rngV, hi]
theorem rngV_set {n : Nat} {h : Nat → Value} {k : Nat} {v : Value} : (rngV n h).setIfInBounds k v = rngV n (fun x => if x = k then v else h x) := by
  apply Array.ext
  · simp [rngV]
  · intro i h1 h2
    simp only [rngV, List.setIfInBounds_toArray, List.getElem_toArray]
    rw [List.getElem_set]
    by_cases e : k = i
    · subst e; simp
    · rw [if_neg e]; simp [Ne.symm e]
theorem rngV_congr {n : Nat} {h h' : Nat → Value} (he : ∀ i, i < n → h i = h' i) : rngV n h = rngV n h' := by
  unfold rngV
  congr 1
  apply List.map_congr_left
  intro i hi
  exact he i (by simpa using hi)
theorem rngV_rep (n : Nat) (v : Value) : Array.replicate n v = rngV n fun _ => v := by
  apply Array.ext'
  unfold rngV
  rw [Array.toList_replicate]
  simp [List.map_const']
/-- The slices' heads: where they lie, their room. -/
abbrev Heads := Nat → Option Addr × Nat
def headV (H : Heads) (xs : Nat → List Int) (x : Nat) : Value := .slice (H x).1 (xs x).length (H x).2
def rowP (e : Nat) (H : Heads) (xs : Nat → List Int) (x : Nat) : Res := row (headV H xs x) e 1 (xs x).length (ints (xs x))
def rowsP (n e : Nat) (H : Heads) (xs : Nat → List Int) : List Res := (List.range n).map (rowP e H xs)
def restP (n e b : Nat) (H : Heads) (xs : Nat → List Int) : List Res := ((List.range n).eraseIdx b).map (rowP e H xs)
theorem rowsP_get {n e x : Nat} {H : Heads} {xs : Nat → List Int} (h : x < n) : (rowsP n e H xs)[x]? = some (row (.slice (H x).1 (xs x).length (H x).2) e 1 (xs x).length (ints (xs x))) := by
  unfold rowsP
  rw [List.getElem?_map, List.getElem?_range h]
  rfl
theorem rowsP_perm {n e b : Nat} {H : Heads} {xs : Nat → List Int} (h : b < n) : (rowsP n e H xs).Perm (row (.slice (H b).1 (xs b).length (H b).2) e 1 (xs b).length (ints (xs b)) :: restP n e b H xs) := by
  unfold rowsP restP
  have h1 : (List.range n).Perm (b :: (List.range n).eraseIdx b) := by
    rw [List.eraseIdx_eq_take_drop_succ]
    have e1 : List.range n = (List.range n).take b ++ b :: (List.range n).drop (b + 1) := by
      have := split_at (l := List.range n) (i := b) (x := b) (List.getElem?_range h)
      exact this
    rw (occs := .pos [1]) [e1]
    exact List.perm_middle
  exact h1.map _
theorem restP_congr {n e b : Nat} {H H' : Heads} {xs xs' : Nat → List Int} (h : ∀ x, x ≠ b → H x = H' x ∧ xs x = xs' x) : restP n e b H xs = restP n e b H' xs' := by
  unfold restP
  apply List.map_congr_left
  intro x hx
  have hne : x ≠ b := by
    rintro rfl
    have hn : (List.range n).Nodup := List.nodup_range
    by_cases hb : x < n
    · have h1 : (List.range n).Perm (x :: (List.range n).eraseIdx x) := by
        rw [List.eraseIdx_eq_take_drop_succ]
        have e1 : List.range n = (List.range n).take x ++ x :: (List.range n).drop (x + 1) := split_at (l := List.range n) (i := x) (x := x) (List.getElem?_range hb)
        rw (occs := .pos [1]) [e1]
        exact List.perm_middle
      exact (List.nodup_cons.1 (h1.nodup_iff.1 hn)).1 hx
    · have := List.mem_of_mem_eraseIdx hx
      simp at this; omega
  obtain ⟨h1, h2⟩ := h x hne
  unfold rowP headV
  rw [h1, h2]
theorem rowsP_congr {n e : Nat} {H H' : Heads} {xs xs' : Nat → List Int} (h : ∀ x, x < n → H x = H' x ∧ xs x = xs' x) : rowsP n e H xs = rowsP n e H' xs' := by
  unfold rowsP
  apply List.map_congr_left
  intro x hx
  obtain ⟨h1, h2⟩ := h x (by simpa using hx)
  unfold rowP headV
  rw [h1, h2]
/-- As many empty ones as are wanted. -/
theorem Hp.nrs {w0 w : World} {B e : Nat} {M L : List Res} (h : Hp w0 B (M ++ L) w) : ∀ n, Hp w0 B (M ++ (L ++ rowsP n e (fun _ => (none, 0)) (fun _ => []))) w
  | 0 => by simpa [rowsP] using h
  | n + 1 => by
    have h1 := Hp.nrs (e := e) h n
    have h2 : Hp w0 B (M ++ (row (.slice none 0 0) e 1 0 [] :: (L ++ rowsP n e (fun _ => (none, 0)) (fun _ => [])))) w := Hp.nr h1
    refine h2.perm (List.Perm.append_left _ ?_)
    have : rowsP (n + 1) e (fun _ => (none, 0)) (fun _ => []) = rowsP n e (fun _ => (none, 0)) (fun _ => []) ++ [row (.slice none 0 0) e 1 0 []] := by
      unfold rowsP
      rw [List.range_succ, List.map_append]; rfl
    rw [this, ← List.append_assoc]
    exact (List.perm_append_singleton _ _).symm
theorem Cd.nrs {C : Ctx} {c : Code} {Q : Exit → Env → List Res → Prop} {σ : Env} {L : List Res} (n e : Nat) (hc : Cd C c Q σ (L ++ rowsP n e (fun _ => (none, 0)) (fun _ => []))) : Cd C c Q σ L := fun a w ha hs => hc a w ha ⟨hs.size, hs.heap.nrs n⟩
end Go.Proofs.YtbcnejobnmljlaaDoor

/- Plain laws behind ir.Right: whether all that is read has a value. -/
namespace Go.Proofs.YtbcnejobnmljlaaDoor
set_option linter.unusedVariables false
open Go Go.RowKit

def okPast : List RIns → Tm → VS → Bool
  | [], t, s => hasV s (needsL t)
  | i :: l, t, s => hasV s (readsL i) && okPast l t (putV s (defI i).toNat true)
theorem hasV_iff {s : VS} {l : List Int} : hasV s l = true ↔ ∀ n ∈ l, s n.toNat = true := by
  unfold hasV; rw [List.all_eq_true]
theorem exposed_range : ∀ {l : List RIns} {t : Tm} {v : Int}, exposed l t v = true → 1 ≤ v ∧ v ≤ 200
  | [], t, v, h => by
    have := needsL_mem (t := t) (n := v) (by simpa [exposed] using h)
    omega
  | i :: l, t, v, h => by
    unfold exposed at h
    rw [Bool.or_eq_true] at h
    rcases h with h | h
    · exact readsL_mem (by simpa using h)
    · rw [Bool.and_eq_true] at h
      exact exposed_range h.2
theorem okPast_iff : ∀ {l : List RIns} {t : Tm} {s : VS}, okPast l t s = true ↔ ∀ v : Int, exposed l t v = true → s v.toNat = true
  | [], t, s => by
    unfold okPast
    rw [hasV_iff]
    exact ⟨fun h v hv => h v (by simpa [exposed] using hv), fun h v hv => h v (by simpa [exposed] using hv)⟩
  | i :: l, t, s => by
    unfold okPast
    rw [Bool.and_eq_true, hasV_iff, okPast_iff]
    have hd := defI_range i
    constructor
    · rintro ⟨h1, h2⟩ v hv
      have hr := exposed_range hv
      unfold exposed at hv
      rw [Bool.or_eq_true] at hv
      rcases hv with hv | hv
      · exact h1 v (by simpa using hv)
      · rw [Bool.and_eq_true] at hv
        have hne : defI i ≠ v := by simpa using hv.1
        have := h2 v hv.2
        unfold putV at this
        rwa [if_neg (by omega)] at this
    · intro h
      refine ⟨fun n hn => h n (by unfold exposed; rw [Bool.or_eq_true]; exact .inl (by simpa using hn)), fun v hv => ?_⟩
      have hr := exposed_range hv
      unfold putV
      by_cases e : defI i = v
      · rw [if_pos (by omega)]
      · rw [if_neg (by omega)]
        refine h v ?_
        unfold exposed
        rw [Bool.or_eq_true]
        right
        rw [Bool.and_eq_true]
        exact ⟨by simpa using e, hv⟩
/-- What is in a set behind a block's instructions. -/
def outV (l : List RIns) (s : VS) : VS := l.foldl (fun s i => putV s (defI i).toNat true) s
theorem outV_iff : ∀ {l : List RIns} {s : VS} {v : Nat}, outV l s v = true ↔ s v = true ∨ ∃ i ∈ l, (defI i).toNat = v
  | [], s, v => by simp [outV]
  | i :: l, s, v => by
    show outV l (putV s (defI i).toNat true) v = true ↔ _
    rw [outV_iff]
    have : putV s (defI i).toNat true v = true ↔ s v = true ∨ (defI i).toNat = v := by
      unfold putV
      by_cases e : v = (defI i).toNat
      · rw [if_pos e]; simp [e]
      · rw [if_neg e]
        exact ⟨.inl, fun h => h.elim id fun h => absurd h.symm e⟩
    rw [this]
    simp only [List.mem_cons, exists_eq_or_imp]
    exact or_assoc
theorem outV_snoc {l : List RIns} {k : Nat} {i : RIns} {s : VS} (h : l[k]? = some i) : outV (l.take (k + 1)) s = putV (outV (l.take k) s) (defI i).toNat true := by
  unfold outV
  rw [take_snoc_ h, List.foldl_append]; rfl
/-- A way from the first block to the begin of another, on which a variable gets no value. -/
inductive Bare (f : RFun) (v : Nat) : Nat → Prop
  | zero : (∀ p ∈ f.params, p.toNat ≠ v) → Bare f v 0
  | step {a b : Nat} {x : RBlk} : Bare f v a → f.blocks[a]? = some x → (∀ i ∈ x.ins, (defI i).toNat ≠ v) → (b : Int) ∈ toL x.term → Bare f v b
open Classical in
noncomputable def valuedF (f : RFun) : Bool := decide (∀ (b : Nat) (x : RBlk) (v : Int), f.blocks[b]? = some x → exposed x.ins x.term v = true → ¬ Bare f v.toNat b)
theorem valuedF_iff {f : RFun} : valuedF f = true ↔ ∀ (b : Nat) (x : RBlk) (v : Int), f.blocks[b]? = some x → exposed x.ins x.term v = true → ¬ Bare f v.toNat b := by
  unfold valuedF; exact @decide_eq_true_iff _ (Classical.propDecidable _)
abbrev IV := Nat → VS
def setI (I : IV) (b : Nat) (s : VS) : IV := fun x => if x = b then s else I x
structure Val (f : RFun) (I : IV) : Prop where
  z : ∀ v, v < 201 → (I 0 v = true ↔ ∃ p ∈ f.params, p.toNat = v)
  b : ∀ b v, v < 201 → I b v = false → Bare f v b
theorem Val.turn {f : RFun} {I : IV} {a to : Nat} {x : RBlk} {out : VS} (h : Val f I) (ha : f.blocks[a]? = some x) (ht : (to : Int) ∈ toL x.term) (h0 : to ≠ 0) (ho : ∀ v, v < 201 → out v = false → Bare f v a ∧ ∀ i ∈ x.ins, (defI i).toNat ≠ v) :
    Val f (setI I to fun v => I to v && out v) := by
  refine ⟨fun v hv => ?_, fun b v hv hb => ?_⟩
  · unfold setI; rw [if_neg (fun e => h0 e.symm)]; exact h.z v hv
  · unfold setI at hb
    by_cases e : b = to
    · rw [if_pos e, Bool.and_eq_false_iff] at hb
      rw [e]
      rcases hb with hb | hb
      · exact h.b to v hv hb
      · obtain ⟨h1, h2⟩ := ho v hv hb
        exact .step h1 ha h2 ht
    · rw [if_neg e] at hb
      exact h.b b v hv hb
theorem Val.out {f : RFun} {I : IV} {a : Nat} {x : RBlk} (h : Val f I) : ∀ v, v < 201 → outV x.ins (I a) v = false → Bare f v a ∧ ∀ i ∈ x.ins, (defI i).toNat ≠ v := fun v hv ho => by
  have hn : ¬ (I a v = true ∨ ∃ i ∈ x.ins, (defI i).toNat = v) := fun h2 => by rw [outV_iff.2 h2] at ho; cases ho
  refine ⟨h.b a v hv ?_, fun i hi e => hn (.inr ⟨i, hi, e⟩)⟩
  cases hc : I a v with
  | false => rfl
  | true => exact absurd (.inl hc) hn
/-- Nothing is turned by a block's edge. -/
def Stab (I : IV) (out : VS) (to : Nat) : Prop := ∀ v, v < 201 → I to v = true → out v = true
theorem Val.fin {f : RFun} {I : IV} (h : Val f I) (hs : ∀ (a : Nat) (x : RBlk), f.blocks[a]? = some x → ∀ to : Nat, (to : Int) ∈ toL x.term → Stab I (outV x.ins (I a)) to) {b v : Nat} (hv : v < 201) : I b v = false ↔ Bare f v b := by
  refine ⟨h.b b v hv, fun hb => ?_⟩
  induction hb with
  | zero hp =>
    cases hc : I 0 v with
    | false => rfl
    | true =>
      obtain ⟨p, hp1, hp2⟩ := (h.z v hv).1 hc
      exact absurd hp2 (hp p hp1)
  | @step a b x _ ha hd ht ih =>
    cases hc : I b v with
    | false => rfl
    | true =>
      have := hs a x ha b ht v hv hc
      rw [outV_iff] at this
      rcases this with h1 | ⟨i, hi, h1⟩
      · rw [ih] at h1; cases h1
      · exact absurd h1 (hd i hi)
theorem valued_of {f : RFun} {I : IV} (h : ∀ b v, v < 201 → (I b v = false ↔ Bare f v b)) : valuedF f = (List.range f.blocks.length).all fun b => match f.blocks[b]? with
    | some x => okPast x.ins x.term (I b)
    | none => true := by
  rw [Bool.eq_iff_iff, valuedF_iff, List.all_eq_true]
  constructor
  · intro hv b hb
    have hb : b < f.blocks.length := by simpa using hb
    rw [List.getElem?_eq_getElem hb]
    show okPast _ _ _ = true
    rw [okPast_iff]
    intro v he
    have hr := exposed_range he
    have := hv b _ v (List.getElem?_eq_getElem hb) he
    cases hc : I b v.toNat with
    | true => rfl
    | false => exact absurd ((h b v.toNat (by omega)).1 hc) this
  · intro hv b x v hx he hb
    have hr := exposed_range he
    have h1 := hv b (by simpa using (List.getElem?_eq_some_iff.1 hx).1)
    rw [hx] at h1
    have h2 := okPast_iff.1 h1 v he
    rw [(h b v.toNat (by omega)).2 hb] at h2
    cases h2

/-! ### How much is left -/
theorem cntB_succ (n : Nat) (T : Nat → Bool) : cntB (n + 1) T = cntB n T + (if T n then 1 else 0) := by
  unfold cntB
  rw [List.range_succ, List.filter_append, List.length_append]
  cases hT : T n <;> simp [hT]
theorem cntB_mono {S T : Nat → Bool} : ∀ {n : Nat}, (∀ i, i < n → S i = true → T i = true) → cntB n S ≤ cntB n T
  | 0, _ => by simp [cntB]
  | n + 1, h => by
    rw [cntB_succ, cntB_succ]
    have h1 := cntB_mono (n := n) fun i hi => h i (by omega)
    have h2 := h n (by omega)
    cases hS : S n with
    | false => simp only [Bool.false_eq_true, if_false]; omega
    | true => rw [h2 hS]; simp only [if_true]; omega
theorem cntB_lt {S T : Nat → Bool} {i : Nat} : ∀ {n : Nat}, (∀ i, i < n → S i = true → T i = true) → i < n → S i = false → T i = true → cntB n S < cntB n T
  | 0, _, h, _, _ => by omega
  | n + 1, h, hi, h1, h2 => by
    rw [cntB_succ, cntB_succ]
    by_cases e : i = n
    · subst e
      have h3 := cntB_mono (n := i) fun j hj => h j (by omega)
      rw [h1, h2]; simp only [Bool.false_eq_true, if_false, if_true]; omega
    · have h3 := cntB_lt (n := n) (fun j hj => h j (by omega)) (by omega) h1 h2
      have h4 := h n (by omega)
      cases hS : S n with
      | false => simp only [Bool.false_eq_true, if_false]; omega
      | true => rw [h4 hS]; simp only [if_true]; omega
def muI (n : Nat) (I : IV) : Nat := ((List.range n).map fun b => cntB 201 (I b)).sum
theorem muI_set {I : IV} {to : Nat} {s : VS} : ∀ {n : Nat}, to < n → cntB 201 s < cntB 201 (I to) → muI n (setI I to s) < muI n I
  | 0, h, _ => by omega
  | n + 1, h, h2 => by
    have hs : ∀ J : IV, muI (n + 1) J = muI n J + cntB 201 (J n) := fun J => by unfold muI; rw [List.range_succ, List.map_append, List.sum_append]; simp
    rw [hs, hs]
    by_cases e : to = n
    · subst e
      have h3 : muI to (setI I to s) = muI to I := by
        unfold muI
        congr 1
        apply List.map_congr_left
        intro b hb
        have : b < to := by simpa using hb
        unfold setI; rw [if_neg (by omega)]
      have h4 : setI I to s to = s := by unfold setI; rw [if_pos rfl]
      rw [h3, h4]; omega
    · have h3 := muI_set (I := I) (s := s) (n := n) (by omega) h2
      have h4 : setI I to s n = I n := by unfold setI; rw [if_neg (fun e2 => e e2.symm)]
      rw [h4]; omega
theorem setI_self {I : IV} {b : Nat} {s : VS} (h : ∀ v, v < 201 → s v = I b v) (x v : Nat) (hv : v < 201) : setI I b s x v = I x v := by
  unfold setI
  by_cases e : x = b
  · rw [if_pos e, e]; exact h v hv
  · rw [if_neg e]

/-! ### How they lie -/
def sameV (s t : VS) : Bool := (List.range 201).all fun v => s v == t v
theorem sameV_iff {s t : VS} : sameV s t = true ↔ encV s = encV t := by
  unfold sameV
  rw [List.all_eq_true]
  constructor
  · exact fun h => encV_congr fun i hi => by simpa using h i (by simpa using hi)
  · exact fun h i hi => by simpa using encV_inj h (by simpa using hi)
theorem sameV_at {s t : VS} (h : sameV s t = true) {v : Nat} (hv : v < 201) : s v = t v := encV_inj (sameV_iff.1 h) hv
def inA (n : Nat) (I : IV) : Array Value := rngV (n * 201) fun q => .bool (I (q / 201) (q % 201))
theorem inA_size (n : Nat) (I : IV) : (inA n I).size = n * 201 := rngV_size _ _
theorem inA_get {n b v : Nat} {I : IV} (hb : b < n) (hv : v < 201) : (inA n I)[b * 201 + v]? = some (.bool (I b v)) := by
  unfold inA
  have h1 : b * 201 + v < n * 201 := by
    have : (b + 1) * 201 ≤ n * 201 := Nat.mul_le_mul_right _ hb
    omega
  rw [rngV_get h1]
  have h2 : (b * 201 + v) / 201 = b := by omega
  have h3 : (b * 201 + v) % 201 = v := by omega
  rw [h2, h3]
theorem inA_put {n b v : Nat} {I : IV} {u : Bool} (hv : v < 201) : (inA n I).setIfInBounds (b * 201 + v) (.bool u) = inA n (setI I b (putV (I b) v u)) := by
  unfold inA
  rw [rngV_set]
  refine rngV_congr fun q hq => ?_
  unfold setI putV
  by_cases e : q = b * 201 + v
  · have h2 : q / 201 = b := by omega
    have h3 : q % 201 = v := by omega
    rw [if_pos e, if_pos h2, if_pos h3]
  · rw [if_neg e]
    by_cases h2 : q / 201 = b
    · rw [if_pos h2, if_neg (by omega), h2]
    · rw [if_neg h2]
theorem inA_sta {n b : Nat} {I : IV} {s : VS} (hb : b < n) : ((inA n I).toList.take (b * 201) ++ (encV s).toList ++ (inA n I).toList.drop (b * 201 + 201)).toArray = inA n (setI I b s) := by
  have hle : (b + 1) * 201 ≤ n * 201 := Nat.mul_le_mul_right _ hb
  have hsz := inA_size n I
  apply Array.ext'
  apply List.ext_getElem?
  intro q
  have hl1 : ((inA n I).toList.take (b * 201)).length = b * 201 := by simp [hsz]; omega
  have hl2 : (encV s).toList.length = 201 := by simp [encV]
  have hget : ∀ (J : IV) (q : Nat), q < n * 201 → (inA n J)[q]? = some (.bool (J (q / 201) (q % 201))) := fun J q hq => rngV_get hq
  rw [Array.getElem?_toList (xs := inA n (setI I b s))]
  show ((inA n I).toList.take (b * 201) ++ (encV s).toList ++ (inA n I).toList.drop (b * 201 + 201))[q]? = _
  by_cases h1 : q < b * 201
  · rw [List.append_assoc, List.getElem?_append_left (by omega), List.getElem?_take, if_pos h1, Array.getElem?_toList, hget I q (by omega), hget _ q (by omega)]
    unfold setI; rw [if_neg (by omega)]
  · by_cases h2 : q < b * 201 + 201
    · rw [List.append_assoc, List.getElem?_append_right (by omega), hl1, List.getElem?_append_left (by omega), Array.getElem?_toList, encV_get (by omega), hget _ q (by omega)]
      unfold setI
      rw [if_pos (by omega), show q - b * 201 = q % 201 by omega]
    · rw [List.getElem?_append_right (by simp only [List.length_append]; omega), List.length_append, hl1, hl2, List.getElem?_drop, Array.getElem?_toList, show b * 201 + 201 + (q - (b * 201 + 201)) = q by omega]
      by_cases h3 : q < n * 201
      · rw [hget I q h3, hget _ q h3]
        unfold setI; rw [if_neg (by omega)]
      · rw [Array.getElem?_eq_none (by omega), Array.getElem?_eq_none (by rw [inA_size]; omega)]
theorem inA_congr {n : Nat} {I J : IV} (h : ∀ b v, b < n → v < 201 → I b v = J b v) : inA n I = inA n J := rngV_congr fun q hq => by rw [h _ _ (by omega) (Nat.mod_lt _ (by decide))]
theorem inA_load {n b : Nat} {I : IV} (hb : b < n) : ∀ (j : Nat) (u : Value), (encV (I b)).toList[j]? = some u → (inA n I)[b * 201 + j]? = some u := fun j u hu => by
  have hj : j < 201 := by have := (List.getElem?_eq_some_iff.1 hu).1; simpa [encV] using this
  rw [inA_get hb hj]
  rw [Array.getElem?_toList, encV_get hj] at hu
  exact hu
theorem made_inA (n : Nat) : (madeCells (Array.replicate 201 (Value.bool false)) (n * 201)) = inA n fun _ _ => false := by
  apply Array.ext'
  apply List.ext_getElem?
  intro i
  rw [Array.getElem?_toList, Array.getElem?_toList]
  by_cases h : i < n * 201
  · unfold inA
    rw [rngV_get h]
    have : i % 201 < 201 := Nat.mod_lt _ (by decide)
    simp [madeCells, h, this]
  · have h1 : (madeCells (Array.replicate 201 (Value.bool false)) (n * 201))[i]? = none := Array.getElem?_eq_none (by simp [madeCells]; omega)
    have h2 : (inA n fun _ _ => false)[i]? = none := Array.getElem?_eq_none (by rw [inA_size]; omega)
    rw [h1, h2]
theorem encV_tell {s t : VS} : ∀ (i : Nat) (a b : Value), (encV s)[i]? = some a → (encV t)[i]? = some b → Tell .bool a b := fun i a b ha hb => by
  have hi : i < 201 := by have := (Array.getElem?_eq_some_iff.1 ha).1; simpa [encV] using this
  rw [encV_get hi] at ha hb
  cases ha; cases hb
  exact Tell.bool
end Go.Proofs.YtbcnejobnmljlaaDoor

/- The package flow: edges, walked. -/
namespace Go.Proofs.YtbcnejobnmljlaaDoor
set_option linter.unusedVariables false
open Go Go.RowKit
set_option maxRecDepth 100000

theorem RBlk.one (b : RBlk) : ∀ u ∈ b.cells, u.oneCell' = true := by
  intro u hu
  simp only [RBlk.cells, Tm.cells, List.mem_cons, List.not_mem_nil, or_false] at hu
  rcases hu with rfl | rfl | rfl | rfl | rfl <;> rfl
theorem Ed.one (e : Ed) : ∀ u ∈ e.cells, u.oneCell' = true := by
  intro u hu
  simp only [Ed.cells, List.mem_cons, List.not_mem_nil, or_false] at hu
  rcases hu with rfl | rfl | rfl <;> rfl
theorem Ed.one1 (e : Ed) : ∀ u ∈ [e.val].flatMap (fun v => v.cells.toList), u.oneCell' = true := by
  intro u hu
  have hu : u ∈ e.cells := by simpa [Ed.val, Value.cells] using hu
  exact e.one u hu
theorem edV_one (l : List Ed) : ∀ u ∈ edV l, u.oneCell' = true := by
  intro u hu
  simp only [edV, List.mem_flatMap] at hu
  obtain ⟨e, _, h⟩ := hu
  exact e.one u h
def ysE (ts : List Tm) : List (List Value) := (edges ts).map fun e => [e.val]
theorem ysE_get {ts : List Tm} {k : Nat} {vs : List Value} (h : (ysE ts)[k]? = some vs) : ∃ e, (edges ts)[k]? = some e ∧ vs = [e.val] ∧ k < (edges ts).length := by
  unfold ysE at h
  rw [List.getElem?_map] at h
  cases hn : (edges ts)[k]? with
  | none => rw [hn] at h; cases h
  | some e => rw [hn] at h; cases h; exact ⟨e, rfl, rfl, (List.getElem?_eq_some_iff.1 hn).1⟩
theorem ysE_len (ts : List Tm) : (ysE ts).length = (edges ts).length := by simp [ysE]
theorem ysE_one {ts : List Tm} : ∀ vs ∈ ysE ts, vs.length = 1 := by
  intro vs hvs
  unfold ysE at hvs
  rw [List.mem_map] at hvs
  obtain ⟨e, _, rfl⟩ := hvs
  rfl
section
def FEachV (g : Nat) : Value := .func (.func 79) #[] #[.pointer (some ⟨g, 0, none⟩)]
theorem flow_each_ct {w : World} {f : RFun} : Ct Tryd.prog 56 #[f.val] w (fun v L => ∃ g, v = FEachV g ∧ L = [blk g (.cells f.cells.toArray 38)]) := by
  refine Ct.mk Tryd.func56 rfl rfl ?_
  refine Cd.seq ?_
  refine Cd.region ?_
  refine Ol.x bxg ?_
  rintro _ _ ⟨g1, rfl, rfl⟩
  refine Ol.p (as_ rfl) ?_
  refine Ol.nil ?_
  refine Cd.seq ?_
  refine Cd.region ?_
  refine Ol.p mkf ?_
  refine Ol.p asf ?_
  refine Ol.nil ?_
  refine Cd.ret ⟨_, ret1 rfl rfl, _, .all, g1, rfl, rfl⟩
set_option maxHeartbeats 1000000 in
theorem flow_each_1_it {w0 : World} {B g : Nat} {f : RFun} (hf : FunAt w0 B f) (hfit : Fit f) : It Tryd.prog w0 B 79 #[.pointer (some ⟨g, 0, none⟩)] [blk g (.cells f.cells.toArray 38)] (ysE f.terms) := by
  intro y J Jx L0 hY h0
  have hbl := hfit.blen
  have htl : f.terms.length = f.blocks.length := by simp [RFun.terms]
  refine Cm.mk Tryd.func79 rfl rfl fun M => ?_
  have hret : ∀ {e : Exit} {σ : Env} {Lj D : List Res}, (e = .ret ∨ e = .normal) → (J (ysE f.terms).length Lj ∨ ∃ k, Jx k Lj) → Out ⟨Tryd.prog, 33, none, w0, B, M⟩ Tryd.f79 (fun _ L => ∃ Own' Lj, L = Own' ++ Lj ∧ (J (ysE f.terms).length Lj ∨ ∃ k, Jx k Lj)) e σ (D ++ Lj) := fun {e σ Lj D} he h => by
    rcases he with rfl | rfl <;> exact ⟨_, ret0 rfl, _, .all, D, Lj, rfl, h⟩
  refine Cd.seq ?_
  refine Cd.region ?_
  refine Ol.p (fdl fd_api_Func_1) ?_
  refine Ol.p (ld one_L_api_Block (Rd.blk (i := 0) rfl rfl)) ?_
  refine Ol.p (lens sl_L_api_Block) ?_
  refine Ol.p mvi ?_
  refine Ol.nil ?_
  refine Cd.block ?_
  refine Cd.loop (fun m σ L => ∃ k Lj, m = f.blocks.length - k ∧ k ≤ f.blocks.length ∧ Has σ [(0, .func (.yield y) #[] #[]), (8, .slice f.bA f.blocks.length f.bC), (9, .int .i64 f.blocks.length), (10, .int .i64 k)] ∧ L = blk g (.cells f.cells.toArray 38) :: Lj ∧ J (edgesTo f.terms k).length Lj) (n := f.blocks.length) ⟨0, L0, rfl, Nat.zero_le _, ⟨rfl, rfl, rfl, rfl, trivial⟩, rfl, h0⟩ ?_
  rintro _ σ L ⟨k, Lj, rfl, hk, hs, rfl, hJ⟩
  refine Cd.has hs ?_
  refine Cd.seq ?_
  refine Cd.region ?_
  refine Ol.p lsi ?_
  refine Ol.nil ?_
  refine Cd.seq ?_
  refine Cd.cond rfl (fun h => ?_) (fun h => ?_)
  · have hlt : k < f.blocks.length := by simpa using h
    obtain ⟨b, hb⟩ : ∃ b, f.blocks[k]? = some b := ⟨_, List.getElem?_eq_getElem hlt⟩
    have ht : f.terms[k]? = some b.term := by simp [RFun.terms, hb]
    refine Cd.skip ?_
    refine Cd.mid (fun σ' L' => ∃ Lj', Has σ' [(0, .func (.yield y) #[] #[]), (8, .slice f.bA f.blocks.length f.bC), (9, .int .i64 f.blocks.length), (10, .int .i64 k)] ∧ L' = blk g (.cells f.cells.toArray 38) :: Lj' ∧ J (edgesTo f.terms (k + 1)).length Lj') ?_ ?_
    · refine Cd.block ?_
      refine Cd.seq ?_
      refine Cd.region ?_
      refine Ol.p mvi ?_
      refine Ol.p (ixn sl_L_api_Block (Som.slc hf.blocks (by omega))) ?_
      refine Ol.p (lds ag_api_Block hf.blocks b.len (fun j u hu => by rw [hf.cell hb (List.getElem?_eq_some_iff.1 hu).1]; exact hu)) ?_
      refine Ol.x (alc zr_api_Block) ?_
      rintro _ _ ⟨g4, rfl, rfl⟩
      refine Ol.p asi ?_
      refine Ol.s (stw sz_api_Block rfl b.one (i := 0) rfl rfl) ?_
      refine Ol.nil ?_
      refine Cd.seq ?_
      refine Cd.region ?_
      refine Ol.p (fdl fd_api_Block_1) ?_
      refine Ol.p (ldp (k := 0 + 1) (vs := b.term.cells.toArray) ag_api_Term (i := 0) rfl rfl (fun j u hu => by rw [Nat.zero_add, Nat.add_comm]; simpa [RBlk.cells] using hu)) ?_
      refine Ol.x (sp_call en_ir_To (fun M' w' hh => ir_To_ct (t := b.term))) ?_
      rintro _ _ ⟨_, rfl, A, c, rfl, rfl⟩
      refine Ol.p (lens sl_L_int) ?_
      refine Ol.p mvi ?_
      refine Ol.nil ?_
      obtain ⟨to, hto⟩ : ∃ to, to = toL b.term := ⟨_, rfl⟩
      have htoL := toL_len b.term
      rw [← hto] at htoL ⊢
      refine Cd.block ?_
      refine Cd.loop (fun m σ L => ∃ j Lj, m = to.length - j ∧ j ≤ to.length ∧ Has σ [(0, .func (.yield y) #[] #[]), (3, .int .i64 k), (8, .slice f.bA f.blocks.length f.bC), (9, .int .i64 f.blocks.length), (10, .int .i64 k), (17, .slice A to.length c), (18, .int .i64 to.length), (19, .int .i64 j)] ∧ L = [row (.slice A to.length c) 3 1 to.length (ints to), blk g4 (.cells b.cells.toArray 66), blk g (.cells f.cells.toArray 38)] ++ Lj ∧ J ((edgesTo f.terms k).length + j) Lj) (n := to.length) ⟨0, Lj, rfl, Nat.zero_le _, ⟨rfl, rfl, rfl, rfl, rfl, rfl, rfl, rfl, trivial⟩, rfl, hJ⟩ ?_
      rintro _ σ L ⟨j, Lj, rfl, hj, hs, rfl, hJ⟩
      refine Cd.has hs ?_
      refine Cd.seq ?_
      refine Cd.region ?_
      refine Ol.p lsi ?_
      refine Ol.nil ?_
      refine Cd.seq ?_
      refine Cd.cond rfl (fun h => ?_) (fun h => ?_)
      · have hjl : j < to.length := by simpa using h
        have hget := ints_get hjl
        have hy1 : (ysE f.terms)[(edgesTo f.terms k).length + j]? = some [.agg #[.int .i64 k, .int .i64 j, .int .i64 to[j]]] := by
          unfold ysE
          rw [List.getElem?_map, edges_get ht (by rw [← hto]; exact List.getElem?_eq_getElem hjl)]
          rfl
        refine Cd.skip ?_
        refine Cd.seq ?_
        refine Cd.block ?_
        refine Cd.seq ?_
        refine Cd.region ?_
        refine Ol.p mvi ?_
        refine Ol.p (ixn1 sl_L_int (Som.row (i := 0) rfl (by omega))) ?_
        refine Ol.p (ld one_int (Rd.row (i := 0) rfl hget)) ?_
        refine Ol.p asi ?_
        refine Ol.p asi ?_
        refine Ol.nil ?_
        refine Cd.seq ?_
        refine Cd.region ?_
        refine Ol.p mvf ?_
        refine Ol.p mvi ?_
        refine Ol.p mvi ?_
        refine Ol.p mvi ?_
        refine Ol.p (bds bs_api_Edge zr_api_Edge) ?_
        refine Ol.x (sp_yield (Own := [row (.slice A to.length c) 3 1 to.length (ints to), blk g4 (.cells b.cells.toArray 66), blk g (.cells f.cells.toArray 38)]) hY hy1 hJ) ?_
        rintro _ _ ⟨bb, Lj', rfl, rfl, ht', hf'⟩
        refine Ol.p noti ?_
        refine Ol.nil ?_
        refine Cd.cond rfl (fun hb => ?_) (fun hb => ?_)
        · have hb' : bb = false := by simpa using hb
          exact Cd.ret (hret (.inl rfl) (.inr ⟨_, hf' hb'⟩))
        · have hb' : bb = true := by simpa using hb
          refine Cd.skip ?_
          refine Cd.region ?_
          refine Ol.p addi ?_
          refine Ol.p mvi ?_
          refine Ol.nil ?_
          exact ⟨to.length - (j + 1), by omega, j + 1, Lj', rfl, by omega, ⟨rfl, rfl, rfl, rfl, rfl, rfl, rfl, rfl, trivial⟩, rfl, ht' hb'⟩
      · have hge : j = to.length := by
          have : ¬ (j : Int) < to.length := by simpa using h
          omega
        refine Cd.keep (L' := blk g (.cells f.cells.toArray 38) :: Lj) (.sub (.cons _ (.cons _ (List.Sublist.refl _)))) ?_
        refine Cd.exit (id := 2) ⟨Lj, ⟨rfl, rfl, rfl, rfl, trivial⟩, rfl, ?_⟩
        rw [edgesTo_succ ht, List.length_append, edgesB_len, ← hto, ← hge]
        exact hJ
    · rintro σ' _ ⟨Lj', hs', rfl, hJ'⟩
      refine Cd.has hs' ?_
      refine Cd.region ?_
      refine Ol.p addi ?_
      refine Ol.p mvi ?_
      refine Ol.nil ?_
      exact ⟨f.blocks.length - (k + 1), by omega, k + 1, Lj', rfl, by omega, ⟨rfl, rfl, rfl, rfl, trivial⟩, rfl, hJ'⟩
  · have hge : k = f.blocks.length := by
      have : ¬ (k : Int) < f.blocks.length := by simpa using h
      omega
    subst hge
    refine Cd.exit (id := 0) ?_
    refine hret (D := [_]) (.inr rfl) (.inl ?_)
    rw [ysE_len]
    unfold edges
    rw [htl]
    exact hJ
end
section
def okE (n : Nat) (e : Ed) : Bool := decide (0 ≤ e.to) && decide (e.to < (n : Int))
theorem uint_ge {a : Int} {n : Nat} (h : -9223372036854775808 ≤ a ∧ a ≤ 9223372036854775807) (hn : n < 2 ^ 50) : decide (IntKind.u64.wrap (n : Int) ≤ IntKind.u64.wrap a) = !(decide (0 ≤ a) && decide (a < (n : Int))) := by
  rw [wrapU, wrapU]
  by_cases h1 : 0 ≤ a <;> by_cases h2 : a < (n : Int) <;> simp [h1, h2] <;> omega
theorem edge_i64 {f : RFun} (hfit : Fit f) {e : Ed} (he : e ∈ edges f.terms) : (-9223372036854775808 ≤ e.to ∧ e.to ≤ 9223372036854775807) ∧ (0 ≤ e.src ∧ e.src < (f.blocks.length : Int)) ∧ (0 ≤ e.arm ∧ e.arm < 2) := by
  obtain ⟨k, j, t, hk, hj, h1, h2⟩ := mem_edges.1 he
  have hkl := (List.getElem?_eq_some_iff.1 hk).1
  unfold RFun.terms at hk hkl
  rw [List.getElem?_map] at hk
  cases hb : f.blocks[k]? with
  | none => rw [hb] at hk; cases hk
  | some b =>
    rw [hb] at hk
    cases hk
    have hbm := List.mem_of_getElem? hb
    have hjl := (List.getElem?_eq_some_iff.1 hj).1
    have hlen := toL_len b.term
    refine ⟨?_, ⟨by omega, by simp at hkl; omega⟩, by omega, by omega⟩
    rcases toL_mem (List.mem_of_getElem? hj) with e | e
    · exact hfit.term b hbm _ (by simp [e])
    · exact hfit.term b hbm _ (by simp [e])
set_option maxHeartbeats 1000000 in
theorem flow_Closed_ct {w : World} {f : RFun} (hf : FunAt w w.heap.size f) (hfit : Fit f) : Ct Tryd.prog 26 #[f.val] w (Is (.bool (closed f.terms))) := by
  have hbl := hfit.blen
  have htl : f.terms.length = f.blocks.length := by simp [RFun.terms]
  refine Ct.mk Tryd.func26 rfl rfl ?_
  refine Cd.seq ?_
  refine Cd.region ?_
  refine Ol.x bxg ?_
  rintro _ _ ⟨g1, rfl, rfl⟩
  refine Ol.x (alc zr_bool) ?_
  rintro _ _ ⟨g2, rfl, rfl⟩
  refine Ol.nil ?_
  refine Cd.seq ?_
  refine Cd.seq ?_
  refine Cd.region ?_
  refine Ol.p (ldw ag_api_Func (i := 1) rfl rfl) ?_
  refine Ol.x (sp_call en_flow_each (fun M w' hh => flow_each_ct (f := f))) ?_
  rintro _ _ ⟨_, rfl, gE, rfl, rfl⟩
  refine Ol.nil ?_
  refine Cd.block ?_
  refine Cd.rf (Own := [blk gE (.cells f.cells.toArray 38)]) (L0 := [blk g2 (.cells #[.bool false] 4), blk g1 (.cells f.cells.toArray 38)])
    (fun k L => L = [blk g2 (.cells #[.bool false] 4), blk g1 (.cells f.cells.toArray 38)] ∧ ∀ i e, i < k → (edges f.terms)[i]? = some e → okE f.blocks.length e = true)
    (fun _ c L => c = .ret ∧ L = [blk g2 (.cells #[.bool false] 4), blk g1 (.cells f.cells.toArray 38)] ∧ closed f.terms = false) (fun _ h => by cases h) en_flow_each_1 (flow_each_1_it hf hfit) (.refl _) ⟨rfl, fun i e h => by omega⟩ ysE_one rfl ?_ ?_ ?_
  · rintro l H k vs Lj hk ⟨rfl, hok⟩
    obtain ⟨e, he, rfl, hlt⟩ := ysE_get hk
    have hem := List.mem_of_getElem? he
    have hei := edge_i64 hfit hem
    refine Cd.region ?_
    refine Ol.x (alc zr_api_Edge) ?_
    rintro _ _ ⟨g3, rfl, rfl⟩
    refine Ol.s (stw sz_api_Edge rfl e.one (i := 0) rfl rfl) ?_
    refine Ol.nil ?_
    intro H' r hr
    refine Cd.block ?_
    refine Cd.seq ?_
    refine Cd.region ?_
    refine Ol.p (fdl fd_api_Edge_2) ?_
    refine Ol.p (ld one_int (Rd.blk (i := 0) rfl rfl)) ?_
    refine Ol.p (cvw in_int in_uint) ?_
    refine Ol.p (fdl fd_api_Func_1) ?_
    refine Ol.p (ld one_L_api_Block (Rd.blk (i := 2) rfl rfl)) ?_
    refine Ol.p (lens sl_L_api_Block) ?_
    refine Ol.p (cvw in_int in_uint) ?_
    refine Ol.p gei ?_
    refine Ol.nil ?_
    refine Cd.cond rfl (fun h => ?_) (fun h => ?_)
    · rw [uint_ge hei.1 hbl] at h
      refine Cd.seq ?_
      refine Cd.region ?_
      refine Ol.s (stv sz_bool (i := 1) rfl rfl) ?_
      refine Ol.keep (.sub (.cons _ (List.Sublist.refl _))) ?_
      refine Ol.nil ?_
      refine Cd.ret ⟨rfl, rfl, ?_⟩
      unfold closed
      have : (edges f.terms).all (fun e => decide (0 ≤ e.to) && decide (e.to < (f.terms.length : Int))) = false := by
        rw [List.all_eq_false]
        refine ⟨e, hem, ?_⟩
        rw [htl]
        simp at h ⊢
        omega
      rw [this]; rfl
    · rw [uint_ge hei.1 hbl] at h
      refine Cd.keep (L' := [blk g2 (.cells #[.bool false] 4), blk g1 (.cells f.cells.toArray 38)]) (.sub (.cons _ (List.Sublist.refl _))) ?_
      refine Cd.skip ⟨rfl, ?_⟩
      intro i e' hi he'
      rcases Nat.lt_or_ge i k with h3 | h3
      · exact hok i e' h3 he'
      · have : i = k := by omega
        subst this
        rw [he] at he'
        cases he'
        unfold okE
        simp at h ⊢
        omega
  · rintro L' ⟨rfl, hok⟩
    have hall : (edges f.terms).all (fun e => decide (0 ≤ e.to) && decide (e.to < (f.terms.length : Int))) = true := by
      rw [List.all_eq_true]
      intro e he
      obtain ⟨i, hi, rfl⟩ := List.getElem_of_mem he
      have := hok i _ (by rw [ysE_len]; exact hi) (List.getElem?_eq_getElem hi)
      rw [htl]; exact this
    refine Cd.seq ?_
    cases h4 : decide ((0 : Int) < (f.blocks.length : Int)) with
    | true =>
      refine Cd.region ?_
      refine Ol.p (fdl fd_api_Func_1) ?_
      refine Ol.p (ld one_L_api_Block (Rd.blk (i := 1) rfl rfl)) ?_
      refine Ol.p (lens sl_L_api_Block) ?_
      refine Ol.p gti ?_
      refine Ol.p mvb ?_
      refine Ol.gp h4 (fdl fd_api_Func_1) ?_
      refine Ol.gp h4 (ld one_L_api_Block (Rd.blk (i := 1) rfl rfl)) ?_
      refine Ol.gp h4 (lens sl_L_api_Block) ?_
      refine Ol.gp h4 lei ?_
      refine Ol.p (pkTb h4) ?_
      refine Ol.s (stv sz_bool (i := 0) rfl rfl) ?_
      refine Ol.nil ?_
      refine Cd.ret ⟨.bool _, retv rfl one_bool rfl (i := 0) rfl rfl, [], .nil, ?_, rfl⟩
      have h4' : 0 < f.blocks.length := by simpa using h4
      unfold closed
      rw [hall, htl]
      simp [h4']
      omega
    | false =>
      refine Cd.region ?_
      refine Ol.p (fdl fd_api_Func_1) ?_
      refine Ol.p (ld one_L_api_Block (Rd.blk (i := 1) rfl rfl)) ?_
      refine Ol.p (lens sl_L_api_Block) ?_
      refine Ol.p gti ?_
      refine Ol.p mvb ?_
      refine Ol.gn h4 ?_
      refine Ol.gn h4 ?_
      refine Ol.gn h4 ?_
      refine Ol.gn h4 ?_
      refine Ol.p (pkFb h4) ?_
      refine Ol.s (stv sz_bool (i := 0) rfl rfl) ?_
      refine Ol.nil ?_
      refine Cd.ret ⟨.bool _, retv rfl one_bool rfl (i := 0) rfl rfl, [], .nil, ?_, rfl⟩
      have h4' : f.blocks.length = 0 := by simpa using h4
      unfold closed
      rw [htl, h4']
      simp
  · rintro k c L' ⟨rfl, rfl, hcl⟩
    refine Cd.ret ⟨.bool _, retv rfl one_bool rfl (i := 0) rfl rfl, [], .nil, ?_, rfl⟩
    rw [hcl]
end
/-- A function value that tells whether something is so of edges. -/
def TellsE (P : Program) (w : World) (g : FuncId) (fst cap : Array Value) (ts : List Tm) (p : Ed → Bool) : Prop := Ent P g ∧ ∀ e ∈ edges ts, ∀ w', Below w.heap.size w w' → Ct P g (fst ++ #[e.val] ++ cap) w' (Is (.bool (p e)))
theorem filter_snoc {ts : List Tm} {p : Ed → Bool} {k : Nat} {e : Ed} (h : (edges ts)[k]? = some e) : ((edges ts).take (k + 1)).filter p = ((edges ts).take k).filter p ++ (if p e = true then [e] else []) := by
  rw [take_snoc_ h, List.filter_append]
  congr 1
  by_cases hp : p e = true <;> simp [hp]
theorem edV_app (a b : List Ed) : edV (a ++ b) = edV a ++ edV b := by simp [edV]
theorem closed_len {ts : List Tm} (h : closed ts = true) : 0 < ts.length ∧ ts.length ≤ 200 ∧ ∀ e ∈ edges ts, 0 ≤ e.to ∧ e.to < (ts.length : Int) := by
  unfold closed at h
  simp only [Bool.and_eq_true, decide_eq_true_eq, List.all_eq_true] at h
  exact ⟨h.1.2, h.2, fun e he => h.1.1 e he⟩
section
set_option maxHeartbeats 1000000 in
theorem flow_some_ct {w : World} {f : RFun} {g : FuncId} {fst cap : Array Value} {p : Ed → Bool} (hf : FunAt w w.heap.size f) (hfit : Fit f) (hp : TellsE Tryd.prog w g fst cap f.terms p) :
    Ct Tryd.prog 57 #[f.val, .func (.func g) fst cap] w (NewL 47 3 (someE f.terms p).length (edV (someE f.terms p))) := by
  have hbl := hfit.blen
  have htl : f.terms.length = f.blocks.length := by simp [RFun.terms]
  refine Ct.mk Tryd.func57 rfl rfl ?_
  refine Cd.seq ?_
  refine Cd.region ?_
  refine Ol.x bxg ?_
  rintro _ _ ⟨g2, rfl, rfl⟩
  refine Ol.x bxf ?_
  rintro _ _ ⟨g3, rfl, rfl⟩
  refine Ol.x (alc zr_L_api_Edge) ?_
  rintro _ _ ⟨g4, rfl, rfl⟩
  refine Ol.nil ?_
  refine Cd.seq ?_
  refine Cd.seq ?_
  refine Cd.region ?_
  refine Ol.p (ldw ag_api_Func (i := 2) rfl rfl) ?_
  refine Ol.s (cl en_flow_Closed (fun M w' hh => flow_Closed_ct (hf.now hh) hfit)) ?_
  refine Ol.p noti ?_
  refine Ol.nil ?_
  refine Cd.cond rfl (fun h => ?_) (fun h => ?_)
  · have hcl : closed f.terms = false := by simpa using h
    refine Cd.seq ?_
    refine Cd.region ?_
    refine Ol.s (stv sz_L_api_Edge (i := 0) rfl rfl) ?_
    refine Ol.nil ?_
    have e : someE f.terms p = [] := by unfold someE; rw [hcl]; rfl
    rw [e]
    refine Cd.nr 47 3 ?_
    refine Cd.ret ⟨.slice none 0 0, retv rfl one_L_api_Edge rfl (i := 1) rfl rfl, _, .sub (.cons_cons _ (.cons _ (.cons _ (.cons _ .slnil)))), none, 0, rfl, rfl⟩
  · have hcl : closed f.terms = true := by simpa using h
    obtain ⟨hpos, hmax, _⟩ := closed_len hcl
    have hel := edgesTo_len_le f.terms f.terms.length
    have e : someE f.terms p = (edges f.terms).filter p := by unfold someE; rw [hcl]; rfl
    rw [e]
    refine Cd.skip ?_
    refine Cd.seq ?_
    refine Cd.seq ?_
    refine Cd.region ?_
    refine Ol.p (ldw ag_api_Func (i := 2) rfl rfl) ?_
    refine Ol.x (sp_call en_flow_each (fun M w' hh => flow_each_ct (f := f))) ?_
    rintro _ _ ⟨_, rfl, gE, rfl, rfl⟩
    refine Ol.nil ?_
    refine Cd.block ?_
    refine Cd.nr 47 3 ?_
    refine Cd.rf (Own := [blk gE (.cells f.cells.toArray 38)]) (L0 := [row (.slice none 0 0) 47 3 0 [], blk g4 (.cells #[.slice none 0 0] 42), blk g3 (.cells #[.func (.func g) fst cap] 92), blk g2 (.cells f.cells.toArray 38)])
      (fun k L => ∃ A c n, n = (((edges f.terms).take k).filter p).length ∧ L = [row (.slice A n c) 47 3 n (edV (((edges f.terms).take k).filter p)), blk g4 (.cells #[.slice A n c] 42), blk g3 (.cells #[.func (.func g) fst cap] 92), blk g2 (.cells f.cells.toArray 38)])
      (fun _ _ _ => False) (fun _ h => by cases h) en_flow_each_1 (flow_each_1_it hf hfit) (.swap _ _ _) ⟨none, 0, 0, rfl, rfl⟩ ysE_one rfl ?_ ?_ (fun _ _ _ h => h.elim)
    · rintro l H k vs Lj hk ⟨A, c, n, hn, rfl⟩
      obtain ⟨e, he, rfl, hlt⟩ := ysE_get hk
      have hem := List.mem_of_getElem? he
      have hnk : n ≤ k := by rw [hn]; exact Nat.le_trans (List.length_filter_le _ _) (by simp; omega)
      have hlt2 : k < 400 := by unfold edges at hlt; omega
      refine Cd.region ?_
      refine Ol.x (alc zr_api_Edge) ?_
      rintro _ _ ⟨g5, rfl, rfl⟩
      refine Ol.s (stw sz_api_Edge rfl e.one (i := 0) rfl rfl) ?_
      refine Ol.nil ?_
      intro H' r hr
      refine Cd.block ?_
      refine Cd.seq ?_
      refine Cd.region ?_
      refine Ol.p (ldv one_func_api_Edge_bool (i := 3) rfl) ?_
      refine Ol.p (ldw ag_api_Edge (i := 0) rfl rfl) ?_
      refine Ol.x (sp_callv hp.1 (fun M w' hh => hp.2 e hem w' hh.below)) ?_
      rintro _ _ ⟨_, rfl, rfl, rfl⟩
      refine Ol.nil ?_
      refine Cd.cond rfl (fun h => ?_) (fun h => ?_)
      · skip
        refine Cd.region ?_
        refine Ol.p (ldv one_L_api_Edge (i := 2) rfl) ?_
        refine Ol.p (ldw ag_api_Edge (i := 0) rfl rfl) ?_
        refine Ol.x (bsn [e.val] sl_L_api_Edge zr_api_Edge (by intro v hv; cases hv with | head => rfl | tail _ h => cases h) rfl (by decide) (by decide)) ?_
        rintro _ _ ⟨g17, rfl, rfl⟩
        refine Ol.x (apn (i := 2) (m := 1) sl_L_api_Edge zr_api_Edge rfl (by decide) rfl (Src.row (i := 0) rfl rfl) e.one1 (by unfold maxLen; omega) (by omega)) ?_
        rintro _ _ ⟨A', c', rfl, rfl⟩
        refine Ol.s (stv sz_L_api_Edge (i := 3) rfl rfl) ?_
        refine Ol.keep (.sub (.cons _ (.cons _ (List.Sublist.refl _)))) ?_
        refine Ol.nil ?_
        refine ⟨A', c', n + 1, ?_, ?_⟩
        · rw [filter_snoc he, if_pos h, List.length_append, ← hn]; rfl
        · rw [filter_snoc he, if_pos h, edV_app]
          rfl
      · refine Cd.keep (.sub (.cons _ (List.Sublist.refl _))) ?_
        refine Cd.skip ⟨A, c, n, ?_, ?_⟩
        · rw [filter_snoc he, if_neg (by rw [h]; simp), List.append_nil]; exact hn
        · rw [filter_snoc he, if_neg (by rw [h]; simp), List.append_nil]
    · rintro L' ⟨A, c, n, hn, rfl⟩
      rw [ysE_len, List.take_length] at hn ⊢
      subst hn
      refine Cd.seq ?_
      refine Cd.region ?_
      refine Ol.p (ldv one_L_api_Edge (i := 1) rfl) ?_
      refine Ol.s (stv sz_L_api_Edge (i := 1) rfl rfl) ?_
      refine Ol.nil ?_
      refine Cd.ret ⟨.slice _ _ _, retv rfl one_L_api_Edge rfl (i := 1) rfl rfl, _, .sub (.cons_cons _ (.cons _ (.cons _ (.cons _ .slnil)))), A, c, rfl, rfl⟩
end
section
theorem flow_Edges_1_ct {w : World} {e : Ed} : Ct Tryd.prog 58 #[e.val] w (Is (.bool true)) := by
  refine Ct.mk Tryd.func58 rfl rfl ?_
  refine Cd.seq ?_
  refine Cd.region ?_
  refine Ol.x bxg ?_
  rintro _ _ ⟨g1, rfl, rfl⟩
  refine Ol.p asb ?_
  refine Ol.nil ?_
  refine Cd.seq ?_
  refine Cd.region ?_
  refine Ol.p asb ?_
  refine Ol.nil ?_
  refine Cd.ret ⟨.bool _, ret1 rfl rfl, [], .nil, rfl, rfl⟩
theorem flow_Edges_ct {w : World} {f : RFun} (hf : FunAt w w.heap.size f) (hfit : Fit f) : Ct Tryd.prog 27 #[f.val] w (NewL 47 3 (someE f.terms fun _ => true).length (edV (someE f.terms fun _ => true))) := by
  refine Ct.mk Tryd.func27 rfl rfl ?_
  refine Cd.seq ?_
  refine Cd.region ?_
  refine Ol.x bxg ?_
  rintro _ _ ⟨g1, rfl, rfl⟩
  refine Ol.p ass ?_
  refine Ol.nil ?_
  refine Cd.seq ?_
  refine Cd.region ?_
  refine Ol.p (ldw ag_api_Func (i := 0) rfl rfl) ?_
  refine Ol.x (sp_call en_flow_some (fun M w' hh => flow_some_ct (g := 58) (fst := #[]) (cap := #[]) (p := fun _ => true) (hf.now hh) hfit ⟨en_flow_Edges_1, fun e he w2 h2 => flow_Edges_1_ct⟩)) ?_
  rintro _ _ ⟨_, rfl, A, c, rfl, rfl⟩
  refine Ol.p ass ?_
  refine Ol.nil ?_
  refine Cd.ret ⟨.slice _ _ _, ret1 rfl rfl, _, .sub (.cons_cons _ (.cons _ .slnil)), A, c, rfl, rfl⟩
end
end Go.Proofs.YtbcnejobnmljlaaDoor

/- The package ir: what is behind a block; long, whole functions: walked. -/
namespace Go.Proofs.YtbcnejobnmljlaaDoor
set_option linter.unusedVariables false
open Go Go.RowKit
set_option maxRecDepth 100000

theorem hasV_congr {s s' : VS} {l : List Int} (h : ∀ n ∈ l, s n.toNat = s' n.toNat) : hasV s l = hasV s' l := by
  unfold hasV
  rw [Bool.eq_iff_iff, List.all_eq_true, List.all_eq_true]
  exact ⟨fun h2 n hn => by rw [← h n hn]; exact h2 n hn, fun h2 n hn => by rw [h n hn]; exact h2 n hn⟩
/-- A function value that tells whether something is so of what a list holds. -/
def TellsG {α : Type} (P : Program) (w : World) (g : FuncId) (fst cap : Array Value) (l : List α) (v : α → Value) (p : α → Bool) : Prop := Ent P g ∧ ∀ x ∈ l, ∀ w', Below w.heap.size w w' → Ct P g (fst ++ #[v x] ++ cap) w' (Is (.bool (p x)))
theorem blk_cell {l : List RBlk} {k j : Nat} {b : RBlk} {u : Value} (hk : l[k]? = some b) (hu : b.cells[j]? = some u) : (l.flatMap RBlk.cells)[k * 5 + j]? = some u := by
  rw [flat_get RBlk.len _ _ _ _ hk (by have := (List.getElem?_eq_some_iff.1 hu).1; rw [RBlk.len] at this; exact this)]; exact hu
theorem setReads {w' : World} {B i g : Nat} {w0 : World} {M L : List Res} {s : VS} {e : TypeId} (hh : Hp w0 B (M ++ L) w') (hi : L[i]? = some (blk g (.cells (encV s) e))) : Reads w' w'.heap.size 1 (some ⟨g, 0, none⟩) 201 (encV s).toList :=
  Reads.blk hh hi (by simp [encV]) (fun j u hu => by simpa using hu)
section
theorem slices_IndexFunc_Ins_ct {w : World} {A : Option Addr} {c : Nat} {l : List RIns} {g : FuncId} {fst cap : Array Value} {p : RIns → Bool} (hl : Reads w w.heap.size 8 A l.length (l.flatMap RIns.cells)) (hb : l.length < 2 ^ 62) (hf : TellsG Tryd.prog w g fst cap l RIns.val p) :
    Ct Tryd.prog 106 #[.slice A l.length c, .func (.func g) fst cap] w (Is (.int .i64 (indexI p l))) := by
  refine Ct.mk Tryd.func106 rfl rfl ?_
  refine Cd.seq ?_
  refine Cd.region ?_
  refine Ol.p asi ?_
  refine Ol.nil ?_
  refine Cd.seq ?_
  refine Cd.seq ?_
  refine Cd.region ?_
  refine Ol.p mvs ?_
  refine Ol.p (lens sl_L_api_Ins) ?_
  refine Ol.p mvi ?_
  refine Ol.nil ?_
  refine Cd.block ?_
  refine Cd.loop (fun m σ L => ∃ k, m = l.length - k ∧ k ≤ l.length ∧ Has σ [(0, .slice A l.length c), (1, .func (.func g) fst cap), (7, .int .i64 l.length), (8, .int .i64 k)] ∧ L = [] ∧ ∀ i y, i < k → l[i]? = some y → p y = false) (n := l.length) ⟨0, rfl, Nat.zero_le _, ⟨rfl, rfl, rfl, rfl, trivial⟩, rfl, fun i y h => by omega⟩ ?_
  rintro _ σ L ⟨k, rfl, hk, hs, rfl, hno⟩
  refine Cd.has hs ?_
  refine Cd.seq ?_
  refine Cd.region ?_
  refine Ol.p lsi ?_
  refine Ol.nil ?_
  refine Cd.seq ?_
  refine Cd.cond rfl (fun h => ?_) (fun h => ?_)
  · have hlt : k < l.length := by
      simp only [decide_eq_true_eq] at h; omega
    obtain ⟨x, hx⟩ : ∃ x, l[k]? = some x := ⟨_, List.getElem?_eq_getElem hlt⟩
    refine Cd.skip ?_
    refine Cd.seq ?_
    refine Cd.block ?_
    refine Cd.seq ?_
    refine Cd.region ?_
    refine Ol.p mvi ?_
    refine Ol.p asi ?_
    refine Ol.nil ?_
    refine Cd.seq ?_
    refine Cd.region ?_
    refine Ol.p mvf ?_
    refine Ol.p mvs ?_
    refine Ol.p mvi ?_
    refine Ol.p (ixn sl_L_api_Ins (Som.slc hl (by omega))) ?_
    refine Ol.p (lds (es := x.cells) ag_api_Ins hl x.len (fun j u hu => ins_cell hx hu)) ?_
    refine Ol.x (sp_callv hf.1 (fun M w' hh => hf.2 x (List.mem_of_getElem? hx) w' hh.below)) ?_
    rintro _ _ ⟨_, rfl, rfl, rfl⟩
    refine Ol.nil ?_
    refine Cd.cond rfl (fun h2 => ?_) (fun h2 => ?_)
    · refine Cd.seq ?_
      refine Cd.region ?_
      refine Ol.p mvi ?_
      refine Ol.p asi ?_
      refine Ol.nil ?_
      refine Cd.ret ⟨_, ret1 rfl rfl, [], .nil, ?_, rfl⟩
      rw [indexI_at hx h2 hno]
      rfl
    · refine Cd.skip ?_
      refine Cd.region ?_
      refine Ol.p addi ?_
      refine Ol.p mvi ?_
      refine Ol.nil ?_
      refine ⟨l.length - (k + 1), by omega, k + 1, rfl, by omega, ⟨rfl, rfl, rfl, rfl, trivial⟩, rfl, ?_⟩
      intro i y hi hy
      rcases Nat.lt_or_ge i k with h3 | h3
      · exact hno i y h3 hy
      · have : i = k := by omega
        subst this
        rw [hx] at hy
        cases hy
        exact h2
  · have hge : k = l.length := by
      simp only [decide_eq_false_iff_not] at h; omega
    subst hge
    refine Cd.exit (id := 0) ?_
    refine Cd.seq ?_
    refine Cd.region ?_
    refine Ol.p asi ?_
    refine Ol.nil ?_
    refine Cd.ret ⟨_, ret1 rfl rfl, [], .nil, ?_, rfl⟩
    rw [indexI_none hno]
    rfl
theorem slices_ContainsFunc_Ins_ct {w : World} {A : Option Addr} {c : Nat} {l : List RIns} {g : FuncId} {fst cap : Array Value} {p : RIns → Bool} (hl : Reads w w.heap.size 8 A l.length (l.flatMap RIns.cells)) (hb : l.length < 2 ^ 62) (hf : TellsG Tryd.prog w g fst cap l RIns.val p) :
    Ct Tryd.prog 91 #[.slice A l.length c, .func (.func g) fst cap] w (Is (.bool (l.any p))) := by
  refine Ct.mk Tryd.func91 rfl rfl ?_
  refine Cd.seq ?_
  refine Cd.region ?_
  refine Ol.p asb ?_
  refine Ol.nil ?_
  refine Cd.seq ?_
  refine Cd.region ?_
  refine Ol.p mvs ?_
  refine Ol.p mvf ?_
  refine Ol.s (cl en_slices_IndexFunc_L_api_Ins_api_Ins (fun M w' hh => slices_IndexFunc_Ins_ct (hl.now hh) hb ⟨hf.1, fun n hn w2 h2 => hf.2 n hn w2 (hh.below.trans (h2.mono hh.le))⟩)) ?_
  refine Ol.p gei ?_
  refine Ol.p asb ?_
  refine Ol.nil ?_
  refine Cd.ret ⟨.bool _, ret1 rfl rfl, [], .nil, ?_, rfl⟩
  rw [indexI_ge]
end
section
theorem slices_IndexFunc_Block_ct {w : World} {A : Option Addr} {c : Nat} {l : List RBlk} {g : FuncId} {fst cap : Array Value} {p : RBlk → Bool} (hl : Reads w w.heap.size 5 A l.length (l.flatMap RBlk.cells)) (hb : l.length < 2 ^ 62) (hf : TellsG Tryd.prog w g fst cap l RBlk.val p) :
    Ct Tryd.prog 105 #[.slice A l.length c, .func (.func g) fst cap] w (Is (.int .i64 (indexI p l))) := by
  refine Ct.mk Tryd.func105 rfl rfl ?_
  refine Cd.seq ?_
  refine Cd.region ?_
  refine Ol.p asi ?_
  refine Ol.nil ?_
  refine Cd.seq ?_
  refine Cd.seq ?_
  refine Cd.region ?_
  refine Ol.p mvs ?_
  refine Ol.p (lens sl_L_api_Block) ?_
  refine Ol.p mvi ?_
  refine Ol.nil ?_
  refine Cd.block ?_
  refine Cd.loop (fun m σ L => ∃ k, m = l.length - k ∧ k ≤ l.length ∧ Has σ [(0, .slice A l.length c), (1, .func (.func g) fst cap), (7, .int .i64 l.length), (8, .int .i64 k)] ∧ L = [] ∧ ∀ i y, i < k → l[i]? = some y → p y = false) (n := l.length) ⟨0, rfl, Nat.zero_le _, ⟨rfl, rfl, rfl, rfl, trivial⟩, rfl, fun i y h => by omega⟩ ?_
  rintro _ σ L ⟨k, rfl, hk, hs, rfl, hno⟩
  refine Cd.has hs ?_
  refine Cd.seq ?_
  refine Cd.region ?_
  refine Ol.p lsi ?_
  refine Ol.nil ?_
  refine Cd.seq ?_
  refine Cd.cond rfl (fun h => ?_) (fun h => ?_)
  · have hlt : k < l.length := by
      simp only [decide_eq_true_eq] at h; omega
    obtain ⟨x, hx⟩ : ∃ x, l[k]? = some x := ⟨_, List.getElem?_eq_getElem hlt⟩
    refine Cd.skip ?_
    refine Cd.seq ?_
    refine Cd.block ?_
    refine Cd.seq ?_
    refine Cd.region ?_
    refine Ol.p mvi ?_
    refine Ol.p asi ?_
    refine Ol.nil ?_
    refine Cd.seq ?_
    refine Cd.region ?_
    refine Ol.p mvf ?_
    refine Ol.p mvs ?_
    refine Ol.p mvi ?_
    refine Ol.p (ixn sl_L_api_Block (Som.slc hl (by omega))) ?_
    refine Ol.p (lds (es := x.cells) ag_api_Block hl x.len (fun j u hu => blk_cell hx hu)) ?_
    refine Ol.x (sp_callv hf.1 (fun M w' hh => hf.2 x (List.mem_of_getElem? hx) w' hh.below)) ?_
    rintro _ _ ⟨_, rfl, rfl, rfl⟩
    refine Ol.nil ?_
    refine Cd.cond rfl (fun h2 => ?_) (fun h2 => ?_)
    · refine Cd.seq ?_
      refine Cd.region ?_
      refine Ol.p mvi ?_
      refine Ol.p asi ?_
      refine Ol.nil ?_
      refine Cd.ret ⟨_, ret1 rfl rfl, [], .nil, ?_, rfl⟩
      rw [indexI_at hx h2 hno]
      rfl
    · refine Cd.skip ?_
      refine Cd.region ?_
      refine Ol.p addi ?_
      refine Ol.p mvi ?_
      refine Ol.nil ?_
      refine ⟨l.length - (k + 1), by omega, k + 1, rfl, by omega, ⟨rfl, rfl, rfl, rfl, trivial⟩, rfl, ?_⟩
      intro i y hi hy
      rcases Nat.lt_or_ge i k with h3 | h3
      · exact hno i y h3 hy
      · have : i = k := by omega
        subst this
        rw [hx] at hy
        cases hy
        exact h2
  · have hge : k = l.length := by
      simp only [decide_eq_false_iff_not] at h; omega
    subst hge
    refine Cd.exit (id := 0) ?_
    refine Cd.seq ?_
    refine Cd.region ?_
    refine Ol.p asi ?_
    refine Ol.nil ?_
    refine Cd.ret ⟨_, ret1 rfl rfl, [], .nil, ?_, rfl⟩
    rw [indexI_none hno]
    rfl
theorem slices_ContainsFunc_Block_ct {w : World} {A : Option Addr} {c : Nat} {l : List RBlk} {g : FuncId} {fst cap : Array Value} {p : RBlk → Bool} (hl : Reads w w.heap.size 5 A l.length (l.flatMap RBlk.cells)) (hb : l.length < 2 ^ 62) (hf : TellsG Tryd.prog w g fst cap l RBlk.val p) :
    Ct Tryd.prog 88 #[.slice A l.length c, .func (.func g) fst cap] w (Is (.bool (l.any p))) := by
  refine Ct.mk Tryd.func88 rfl rfl ?_
  refine Cd.seq ?_
  refine Cd.region ?_
  refine Ol.p asb ?_
  refine Ol.nil ?_
  refine Cd.seq ?_
  refine Cd.region ?_
  refine Ol.p mvs ?_
  refine Ol.p mvf ?_
  refine Ol.s (cl en_slices_IndexFunc_L_api_Block_api_Block (fun M w' hh => slices_IndexFunc_Block_ct (hl.now hh) hb ⟨hf.1, fun n hn w2 h2 => hf.2 n hn w2 (hh.below.trans (h2.mono hh.le))⟩)) ?_
  refine Ol.p gei ?_
  refine Ol.p asb ?_
  refine Ol.nil ?_
  refine Cd.ret ⟨.bool _, ret1 rfl rfl, [], .nil, ?_, rfl⟩
  rw [indexI_ge]
end
section
set_option maxHeartbeats 1000000 in
theorem ir_set_past_ct {w : World} {s : VS} {b : RBlk} (hb : BlkAt w b) : Ct Tryd.prog 95 #[.agg (encV s), b.val] w (fun v R => ∃ s', v = .tuple #[.agg (encV s'), .bool (okPast b.ins b.term s)] ∧ R = []) := by
  have hbl := hb.len
  refine Ct.mk Tryd.func95 rfl rfl ?_
  refine Cd.seq ?_
  refine Cd.region ?_
  refine Ol.x bxg ?_
  rintro _ _ ⟨g2, rfl, rfl⟩
  refine Ol.x bxg ?_
  rintro _ _ ⟨g3, rfl, rfl⟩
  refine Ol.x (alc zr_ir_set) ?_
  rintro _ _ ⟨g4, rfl, rfl⟩
  refine Ol.p asb ?_
  refine Ol.nil ?_
  refine Cd.seq ?_
  refine Cd.seq ?_
  refine Cd.region ?_
  refine Ol.p (fdl fd_api_Block_0) ?_
  refine Ol.p (ld one_L_api_Ins (Rd.blk (i := 1) rfl rfl)) ?_
  refine Ol.p (lens sl_L_api_Ins) ?_
  refine Ol.p mvi ?_
  refine Ol.nil ?_
  obtain ⟨Z, hZ⟩ : ∃ Z, Z = encV fun _ => false := ⟨_, rfl⟩
  refine Cd.block ?_   -- 0
  refine Cd.loop (fun m σ L => ∃ k s', m = b.ins.length - k ∧ k ≤ b.ins.length ∧ Has σ [(2, .pointer (some ⟨g2, 0, none⟩)), (3, .pointer (some ⟨g3, 0, none⟩)), (4, .pointer (some ⟨g4, 0, none⟩)), (9, .slice b.iA b.ins.length b.iC), (10, .int .i64 b.ins.length), (11, .int .i64 k)] ∧ [blk g4 (.cells Z 124), blk g3 (.cells b.cells.toArray 66), blk g2 (.cells (encV s') 124)] = L ∧ okPast (b.ins.drop k) b.term s' = okPast b.ins b.term s) (n := b.ins.length) ⟨0, s, rfl, Nat.zero_le _, ⟨rfl, rfl, rfl, rfl, rfl, rfl, trivial⟩, by rw [hZ, ← zeroV]; rfl, rfl⟩ ?_
  rintro _ σ L ⟨k, s', rfl, hk, hs, rfl, hok⟩
  refine Cd.has hs ?_
  refine Cd.seq ?_
  refine Cd.region ?_
  refine Ol.p lsi ?_
  refine Ol.nil ?_
  refine Cd.seq ?_
  refine Cd.cond rfl (fun h => ?_) (fun h => ?_)   -- $12
  · have hlt : k < b.ins.length := by
      simp only [decide_eq_true_eq] at h; omega
    obtain ⟨i, hi⟩ : ∃ i, b.ins[k]? = some i := ⟨_, List.getElem?_eq_getElem hlt⟩
    have him := List.mem_of_getElem? hi
    have hia := hb.all i him
    have hdr : b.ins.drop k = i :: b.ins.drop (k + 1) := by
      rw [List.drop_eq_getElem_cons hlt, (List.getElem?_eq_some_iff.1 hi).2]
    rw [hdr] at hok
    have hdef := defI_range i
    obtain ⟨dn, hdn⟩ : ∃ dn : Nat, defI i = (dn : Int) := ⟨(defI i).toNat, by omega⟩
    have hdn2 : dn < 201 := by omega
    have hrl := readsL_len i
    refine Cd.skip ?_
    refine Cd.seq ?_
    refine Cd.block ?_   -- 1
    refine Cd.seq ?_
    refine Cd.region ?_
    refine Ol.p (ixn sl_L_api_Ins (Som.slc hb.ins (by omega))) ?_
    refine Ol.p (lds (es := i.cells) ag_api_Ins hb.ins i.len (fun j u hu => ins_cell hi hu)) ?_
    refine Ol.x (alc zr_api_Ins) ?_
    rintro _ _ ⟨g7, rfl, rfl⟩
    refine Ol.s (stw sz_api_Ins rfl i.one (i := 0) rfl rfl) ?_
    refine Ol.nil ?_
    refine Cd.seq ?_
    refine Cd.seq ?_
    refine Cd.region ?_
    refine Ol.p (ldw ag_api_Ins (i := 0) rfl rfl) ?_
    refine Ol.x (sp_call en_ir_Reads (fun M w' hh => ir_Reads_ct (hia.now hh))) ?_
    rintro _ _ ⟨_, rfl, A16, c16, rfl, rfl⟩
    refine Ol.s (cl en_P_ir_set_has (fun M w' hh => P_ir_set_has_ct (setReads hh (i := 4) rfl) (Reads.row hh (i := 0) rfl) (by omega) (fun n hn => by have := readsL_mem hn; omega))) ?_
    refine Ol.p noti ?_
    refine Ol.nil ?_
    refine Cd.cond rfl (fun h2 => ?_) (fun h2 => ?_)   -- $18
    · have h3 : hasV s' (readsL i) = false := by simpa using h2
      refine Cd.seq ?_
      refine Cd.region ?_
      refine Ol.p (ldw ag_ir_set (i := 4) rfl (encV_size _)) ?_
      refine Ol.s (stw sz_ir_set (encV_size _) (encV_one _) (i := 2) rfl (by rw [hZ]; exact encV_size _)) ?_
      refine Ol.p asb ?_
      refine Ol.nil ?_
      refine Cd.ret ⟨.tuple _, retct rfl ag_ir_set rfl rfl (i := 2) rfl (encV_size _), [], .nil, s', ?_, rfl⟩
      rw [← hok]
      show _ = Value.tuple #[_, .bool (hasV s' (readsL i) && _)]
      rw [h3]; rfl
    have h3 : hasV s' (readsL i) = true := by simpa using h2
    have hok2 : okPast (b.ins.drop (k + 1)) b.term (putV s' dn true) = okPast b.ins b.term s := by
      rw [← hok]
      show _ = (hasV s' (readsL i) && okPast (b.ins.drop (k + 1)) b.term (putV s' (defI i).toNat true))
      rw [h3, hdn, Bool.true_and, Int.toNat_natCast]
    refine Cd.skip ?_
    refine Cd.region ?_
    refine Ol.p (ldw ag_api_Ins (i := 1) rfl rfl) ?_
    refine Ol.s (cl en_ir_Defines (fun M w' hh => ir_Defines_ct (hia.now hh))) ?_
    refine Ol.p (ixl1 (ix := dn) ar_ir_set (hy := congrArg (Value.int .i64) hdn)) ?_
    refine Ol.s (sto (k := dn) (.inr sz_bool) rfl rfl (i := 4) rfl (by rw [encV_size]; exact hdn2) rfl) ?_
    refine Ol.keep (.sub (.cons _ (.cons _ (List.Sublist.refl _)))) ?_
    refine Ol.nil ?_
    refine Cd.region ?_
    refine Ol.p addi ?_
    refine Ol.p mvi ?_
    refine Ol.nil ?_
    exact ⟨b.ins.length - (k + 1), by omega, k + 1, putV s' dn true, rfl, by omega, ⟨rfl, rfl, rfl, rfl, rfl, rfl, trivial⟩, congrArg (fun cs => [blk g4 (.cells Z 124), blk g3 (.cells b.cells.toArray 66), blk g2 (.cells cs 124)]) encV_set.symm, hok2⟩
  have hk2 : k = b.ins.length := by
    simp only [decide_eq_false_iff_not] at h; omega
  subst hk2
  rw [List.drop_length] at hok
  refine Cd.exit (id := 0) ?_
  refine Cd.seq ?_
  have hnl := needsL_len b.term
  refine Cd.draw mixed 5 (fun opNo => match opNo with | 3 => some (NewL 3 1 (needsL b.term).length (ints (needsL b.term))) | 4 => some (Is (.bool (hasV s' (needsL b.term)))) | _ => none) (fun opNo => match opNo with | 4 => [3] | _ => []) (by kernel_rfl) (by intro q V h; split at h <;> cases h; exact ⟨_, _, none, 0, rfl, rfl⟩; exact ⟨_, [], rfl, rfl⟩) (fun u hu => ?_)
  refine Wk.p (ldw ag_ir_set (i := 2) rfl (encV_size _)) ?_
  refine Wk.p (fdl fd_api_Block_1) ?_
  refine Wk.p (ldp (k := 0 + 1) (vs := b.term.cells.toArray) ag_api_Term (i := 1) rfl rfl (fun j u hu => by rw [Nat.zero_add, Nat.add_comm]; simpa [RBlk.cells] using hu)) ?_
  refine Wk.x (V := NewL 3 1 (needsL b.term).length (ints (needsL b.term))) hu (sp_call en_ir_Needs (fun M w' hh => ir_Needs_ct (t := b.term))) ?_
  rintro _ _ hu3 ⟨A27, c27, rfl, rfl⟩
  refine Wk.xn (V := Is (.bool (hasV s' (needsL b.term)))) hu (l := [3]) rfl (by simp) (by rw [needs_cons hu3, needs_none]; exact (sp_call en_P_ir_set_has (fun M w' hh => P_ir_set_has_ct (setReads hh (i := 3) rfl) (Reads.row hh (i := 0) rfl) (by omega) (fun n hn => by have := needsL_mem hn; omega)))) ?_
  rintro _ _ hu4 ⟨rfl, rfl⟩
  refine Wk.nil ?_
  rw [needs_cons hu4, needs_cons hu3, needs_none]
  refine Ol.s (stw sz_ir_set (encV_size _) (encV_one _) (i := 1) rfl (by rw [hZ]; exact encV_size _)) ?_
  refine Ol.p asb ?_
  refine Ol.nil ?_
  refine Cd.ret ⟨.tuple _, retct rfl ag_ir_set rfl rfl (i := 1) rfl (encV_size _), [], .nil, s', ?_, rfl⟩
  rw [← hok]; rfl
end
section
theorem RBlk.val_cells (b : RBlk) : b.val = .agg b.cells.toArray := rfl
theorem ir_long_1_ct {w : World} {b : RBlk} : Ct Tryd.prog 89 #[b.val] w (Is (.bool (decide (64 < b.ins.length)))) := by
  refine Ct.mk Tryd.func89 rfl rfl ?_
  refine Cd.seq ?_
  refine Cd.region ?_
  refine Ol.x bxg ?_
  rintro _ _ ⟨g1, rfl, rfl⟩
  refine Ol.p asb ?_
  refine Ol.nil ?_
  refine Cd.seq ?_
  refine Cd.region ?_
  refine Ol.p (fdl fd_api_Block_0) ?_
  refine Ol.p (ld one_L_api_Ins (Rd.blk (i := 0) rfl rfl)) ?_
  refine Ol.p (lens sl_L_api_Ins) ?_
  refine Ol.p gti ?_
  refine Ol.p asb ?_
  refine Ol.nil ?_
  refine Cd.ret ⟨.bool _, ret1 rfl rfl, [], .nil, ?_, rfl⟩
  congr 1
  rw [decide_eq_decide]; omega
set_option maxHeartbeats 1000000 in
theorem ir_long_ct {w : World} {f : RFun} (hf : FunAt w w.heap.size f) (hfit : Fit f) : Ct Tryd.prog 70 #[f.val] w (Is (.bool (longF f))) := by
  have hbl := hfit.blen
  have e1 : decide ((f.blocks.length : Int) = 0) = decide (f.blocks.length = 0) := by rw [decide_eq_decide]; omega
  have e2 : decide ((200 : Int) < (f.blocks.length : Int)) = decide (200 < f.blocks.length) := by rw [decide_eq_decide]; omega
  have e3 : decide ((8 : Int) < (f.params.length : Int)) = decide (8 < f.params.length) := by rw [decide_eq_decide]; omega
  have e : longF f = (decide (f.blocks.length = 0) || decide (200 < f.blocks.length) || decide (8 < f.params.length) || f.blocks.any fun b => decide (64 < b.ins.length)) := rfl
  refine Ct.mk Tryd.func70 rfl rfl ?_
  refine Cd.seq ?_
  refine Cd.region ?_
  refine Ol.x bxg ?_
  rintro _ _ ⟨g1, rfl, rfl⟩
  refine Ol.p asb ?_
  refine Ol.nil ?_
  refine Cd.seq ?_
  cases c1 : decide (f.blocks.length = 0) with
  | true =>
    refine Cd.region ?_
    refine Ol.p (fdl fd_api_Func_1) ?_
    refine Ol.p (ld one_L_api_Block (Rd.blk (i := 0) rfl rfl)) ?_
    refine Ol.p (lens sl_L_api_Block) ?_
    refine Ol.p eqi ?_
    refine Ol.p mvb ?_
    refine Ol.gn (e1.trans c1) ?_
    refine Ol.gn (e1.trans c1) ?_
    refine Ol.gn (e1.trans c1) ?_
    refine Ol.gn (e1.trans c1) ?_
    refine Ol.p (pkTb (e1.trans c1)) ?_
    refine Ol.p mvb ?_
    refine Ol.gn rfl ?_
    refine Ol.gn rfl ?_
    refine Ol.gn rfl ?_
    refine Ol.gn rfl ?_
    refine Ol.p (pkTb rfl) ?_
    refine Ol.p mvb ?_
    refine Ol.gn rfl ?_
    refine Ol.gn rfl ?_
    refine Ol.gn rfl ?_
    refine Ol.p (pkTb rfl) ?_
    refine Ol.p asb ?_
    refine Ol.nil ?_
    exact Cd.ret ⟨.bool _, ret1 rfl rfl, [], .nil, by rw [e, c1]; rfl, rfl⟩
  | false =>
  cases c2 : decide (200 < f.blocks.length) with
  | true =>
    refine Cd.region ?_
    refine Ol.p (fdl fd_api_Func_1) ?_
    refine Ol.p (ld one_L_api_Block (Rd.blk (i := 0) rfl rfl)) ?_
    refine Ol.p (lens sl_L_api_Block) ?_
    refine Ol.p eqi ?_
    refine Ol.p mvb ?_
    refine Ol.gp (e1.trans c1) (fdl fd_api_Func_1) ?_
    refine Ol.gp (e1.trans c1) (ld one_L_api_Block (Rd.blk (i := 0) rfl rfl)) ?_
    refine Ol.gp (e1.trans c1) (lens sl_L_api_Block) ?_
    refine Ol.gp (e1.trans c1) gti ?_
    refine Ol.p (pkFb (e1.trans c1)) ?_
    refine Ol.p mvb ?_
    refine Ol.gn (e2.trans c2) ?_
    refine Ol.gn (e2.trans c2) ?_
    refine Ol.gn (e2.trans c2) ?_
    refine Ol.gn (e2.trans c2) ?_
    refine Ol.p (pkTb (e2.trans c2)) ?_
    refine Ol.p mvb ?_
    refine Ol.gn rfl ?_
    refine Ol.gn rfl ?_
    refine Ol.gn rfl ?_
    refine Ol.p (pkTb rfl) ?_
    refine Ol.p asb ?_
    refine Ol.nil ?_
    exact Cd.ret ⟨.bool _, ret1 rfl rfl, [], .nil, by rw [e, c1, c2]; rfl, rfl⟩
  | false =>
  cases c3 : decide (8 < f.params.length) with
  | true =>
    refine Cd.region ?_
    refine Ol.p (fdl fd_api_Func_1) ?_
    refine Ol.p (ld one_L_api_Block (Rd.blk (i := 0) rfl rfl)) ?_
    refine Ol.p (lens sl_L_api_Block) ?_
    refine Ol.p eqi ?_
    refine Ol.p mvb ?_
    refine Ol.gp (e1.trans c1) (fdl fd_api_Func_1) ?_
    refine Ol.gp (e1.trans c1) (ld one_L_api_Block (Rd.blk (i := 0) rfl rfl)) ?_
    refine Ol.gp (e1.trans c1) (lens sl_L_api_Block) ?_
    refine Ol.gp (e1.trans c1) gti ?_
    refine Ol.p (pkFb (e1.trans c1)) ?_
    refine Ol.p mvb ?_
    refine Ol.gp (e2.trans c2) (fdl fd_api_Func_0) ?_
    refine Ol.gp (e2.trans c2) (ld one_L_int (Rd.blk (i := 0) rfl rfl)) ?_
    refine Ol.gp (e2.trans c2) (lens sl_L_int) ?_
    refine Ol.gp (e2.trans c2) gti ?_
    refine Ol.p (pkFb (e2.trans c2)) ?_
    refine Ol.p mvb ?_
    refine Ol.gn (e3.trans c3) ?_
    refine Ol.gn (e3.trans c3) ?_
    refine Ol.gn (e3.trans c3) ?_
    refine Ol.p (pkTb (e3.trans c3)) ?_
    refine Ol.p asb ?_
    refine Ol.nil ?_
    exact Cd.ret ⟨.bool _, ret1 rfl rfl, [], .nil, by rw [e, c1, c2, c3]; rfl, rfl⟩
  | false =>
    refine Cd.region ?_
    refine Ol.p (fdl fd_api_Func_1) ?_
    refine Ol.p (ld one_L_api_Block (Rd.blk (i := 0) rfl rfl)) ?_
    refine Ol.p (lens sl_L_api_Block) ?_
    refine Ol.p eqi ?_
    refine Ol.p mvb ?_
    refine Ol.gp (e1.trans c1) (fdl fd_api_Func_1) ?_
    refine Ol.gp (e1.trans c1) (ld one_L_api_Block (Rd.blk (i := 0) rfl rfl)) ?_
    refine Ol.gp (e1.trans c1) (lens sl_L_api_Block) ?_
    refine Ol.gp (e1.trans c1) gti ?_
    refine Ol.p (pkFb (e1.trans c1)) ?_
    refine Ol.p mvb ?_
    refine Ol.gp (e2.trans c2) (fdl fd_api_Func_0) ?_
    refine Ol.gp (e2.trans c2) (ld one_L_int (Rd.blk (i := 0) rfl rfl)) ?_
    refine Ol.gp (e2.trans c2) (lens sl_L_int) ?_
    refine Ol.gp (e2.trans c2) gti ?_
    refine Ol.p (pkFb (e2.trans c2)) ?_
    refine Ol.p mvb ?_
    refine Ol.gp (e3.trans c3) (fdl fd_api_Func_1) ?_
    refine Ol.gp (e3.trans c3) (ld one_L_api_Block (Rd.blk (i := 0) rfl rfl)) ?_
    refine Ol.gs (e3.trans c3) (cl en_slices_ContainsFunc_L_api_Block_api_Block (fun M w' hh => slices_ContainsFunc_Block_ct (g := 89) (fst := #[]) (cap := #[]) (p := fun b => decide (64 < b.ins.length)) ((hf.now hh).blocks) (by omega) ⟨en_ir_long_1, fun b hb w2 h2 => ir_long_1_ct⟩)) ?_
    refine Ol.p (pkFb (e3.trans c3)) ?_
    refine Ol.p asb ?_
    refine Ol.nil ?_
    exact Cd.ret ⟨.bool _, ret1 rfl rfl, [], .nil, by rw [e, c1, c2, c3]; rfl, rfl⟩
end
section
theorem ir_whole_1_ct {w : World} {i : RIns} (hi : InsAt w i) : Ct Tryd.prog 92 #[i.val] w (Is (.bool (!isIns i))) := by
  refine Ct.mk Tryd.func92 rfl rfl ?_
  refine Cd.seq ?_
  refine Cd.region ?_
  refine Ol.x bxg ?_
  rintro _ _ ⟨g1, rfl, rfl⟩
  refine Ol.p asb ?_
  refine Ol.nil ?_
  refine Cd.seq ?_
  refine Cd.region ?_
  refine Ol.p (ldw ag_api_Ins (i := 0) rfl rfl) ?_
  refine Ol.s (cl en_ir_IsIns (fun M w' hh => ir_IsIns_ct (hi.now hh))) ?_
  refine Ol.p noti ?_
  refine Ol.p asb ?_
  refine Ol.nil ?_
  exact Cd.ret ⟨.bool _, ret1 rfl rfl, [], .nil, rfl, rfl⟩
theorem InsAt.below {w w' : World} {i : RIns} (h : InsAt w i) (hb : Below w.heap.size w w') : InsAt w' i := ⟨(h.args.below hb).more hb.size, h.len, h.callee⟩
end
end Go.Proofs.YtbcnejobnmljlaaDoor

/- The package ir: whole functions, walked. -/
namespace Go.Proofs.YtbcnejobnmljlaaDoor
set_option linter.unusedVariables false
open Go Go.RowKit
set_option maxRecDepth 100000

theorem ints_at {l : List Int} {k : Nat} {n : Int} (h : l[k]? = some n) : (ints l)[k]? = some (.int .i64 n) := by simp [ints, h]
def seenV (l : List Int) : VS := fun j => decide ((j : Int) ∈ l)
theorem whole_split (f : RFun) : wholeF f = (f.params.all varB && decide f.params.Nodup && f.blocks.all wholeB) := rfl
theorem nodup_snoc {l : List Int} {n : Int} (h : l.Nodup) (hn : n ∉ l) : (l ++ [n]).Nodup := by
  rw [List.nodup_append]
  refine ⟨h, by simp, fun a ha b hb => ?_⟩
  have : b = n := by simpa using hb
  subst this
  exact fun e => hn (e ▸ ha)
section
set_option maxHeartbeats 2000000 in
theorem ir_whole_ct {w : World} {f : RFun} (hf : FunAt w w.heap.size f) (hfit : Fit f) : Ct Tryd.prog 71 #[f.val] w (Is (.bool (wholeF f))) := by
  have hbl := hfit.blen
  have hpl := hfit.plen
  refine Ct.mk Tryd.func71 rfl rfl ?_
  refine Cd.seq ?_
  refine Cd.region ?_
  refine Ol.x bxg ?_
  rintro _ _ ⟨g1, rfl, rfl⟩
  refine Ol.p asb ?_
  refine Ol.nil ?_
  refine Cd.seq ?_
  refine Cd.region ?_
  refine Ol.x (alc zr_ir_set) ?_
  rintro _ _ ⟨g3, rfl, rfl⟩
  refine Ol.nil ?_
  refine Cd.mid (fun σ' L' => ∃ Z, (f.params.all varB = true ∧ f.params.Nodup) ∧ Has σ' [(1, .pointer (some ⟨g1, 0, none⟩))] ∧ [blk g3 (.cells Z 124), blk g1 (.cells f.cells.toArray 38)] = L') ?_ ?_
  · refine Cd.seq ?_
    refine Cd.region ?_
    refine Ol.p (fdl fd_api_Func_0) ?_
    refine Ol.p (ld one_L_int (Rd.blk (i := 1) rfl rfl)) ?_
    refine Ol.p (lens sl_L_int) ?_
    refine Ol.p mvi ?_
    refine Ol.nil ?_
    refine Cd.block ?_   -- 0
    refine Cd.loop (fun m σ L => ∃ k, m = f.params.length - k ∧ k ≤ f.params.length ∧ Has σ [(1, .pointer (some ⟨g1, 0, none⟩)), (3, .pointer (some ⟨g3, 0, none⟩)), (9, .slice f.pA f.params.length f.pC), (10, .int .i64 f.params.length), (11, .int .i64 k)] ∧ [blk g3 (.cells (encV (seenV (f.params.take k))) 124), blk g1 (.cells f.cells.toArray 38)] = L ∧ (∀ n ∈ f.params.take k, varB n = true) ∧ (f.params.take k).Nodup) (n := f.params.length) ⟨0, rfl, Nat.zero_le _, ⟨rfl, rfl, rfl, rfl, rfl, trivial⟩, by rw [show encV (seenV (f.params.take 0)) = encV fun _ => false from encV_congr fun i _ => by simp [seenV], ← zeroV]; rfl, by simp, by simp⟩ ?_
    rintro _ σ L ⟨k, rfl, hk, hs, rfl, hv, hnd⟩
    refine Cd.has hs ?_
    refine Cd.seq ?_
    refine Cd.region ?_
    refine Ol.p lsi ?_
    refine Ol.nil ?_
    refine Cd.seq ?_
    refine Cd.cond rfl (fun h => ?_) (fun h => ?_)   -- $12
    · have hlt : k < f.params.length := by
        simp only [decide_eq_true_eq] at h; omega
      obtain ⟨p, hp⟩ : ∃ p, f.params[k]? = some p := ⟨_, List.getElem?_eq_getElem hlt⟩
      have hpm := List.mem_of_getElem? hp
      refine Cd.skip ?_
      refine Cd.seq ?_
      refine Cd.block ?_   -- 1
      refine Cd.seq ?_
      refine Cd.region ?_
      refine Ol.p (ixn1 (ix := k) sl_L_int (Som.slc hf.params (by omega))) ?_
      refine Ol.p (ld one_int (Rd.slc hf.params (ints_at hp))) ?_
      refine Ol.p asi ?_
      refine Ol.nil ?_
      cases hvp : varB p with
      | false =>
        have hg : (!varB p) = true := by rw [hvp]; rfl
        refine Cd.seq ?_
        refine Cd.seq ?_
        refine Cd.region ?_
        refine Ol.p mvi ?_
        refine Ol.s (cl en_ir_variable (fun M w' hh => ir_variable_ct)) ?_
        refine Ol.p noti ?_
        refine Ol.p mvb ?_
        refine Ol.gn hg ?_
        refine Ol.gn hg ?_
        refine Ol.gn hg ?_
        refine Ol.p (pkTb hg) ?_
        refine Ol.nil ?_
        refine Cd.cond rfl (fun h => ?_) (fun h => by cases h)   -- $22
        refine Cd.seq ?_
        refine Cd.region ?_
        refine Ol.p asb ?_
        refine Ol.nil ?_
        refine Cd.ret ⟨.bool _, ret1 rfl rfl, [], .nil, ?_, rfl⟩
        have : f.params.all varB = false := by
          rw [List.all_eq_false]
          exact ⟨p, hpm, by rw [hvp]; simp⟩
        rw [whole_split, this]; rfl
      | true =>
        have hg : (!varB p) = false := by rw [hvp]; rfl
        have hpr := varB_iff.1 hvp
        obtain ⟨m, rfl⟩ : ∃ m : Nat, p = (m : Int) := ⟨p.toNat, by omega⟩
        have hm : m < 201 := by omega
        refine Cd.seq ?_
        refine Cd.seq ?_
        refine Cd.region ?_
        refine Ol.p mvi ?_
        refine Ol.s (cl en_ir_variable (fun M w' hh => ir_variable_ct)) ?_
        refine Ol.p noti ?_
        refine Ol.p mvb ?_
        refine Ol.gp hg mvi ?_
        refine Ol.gp hg (ixl1 (ix := m) ar_ir_set) ?_
        refine Ol.gp hg (ld one_bool (Rd.blk (i := 0) rfl (encV_get hm))) ?_
        refine Ol.p (pkFb hg) ?_
        refine Ol.nil ?_
        refine Cd.cond rfl (fun h => ?_) (fun h => ?_)   -- $22
        · refine Cd.seq ?_
          refine Cd.region ?_
          refine Ol.p asb ?_
          refine Ol.nil ?_
          refine Cd.ret ⟨.bool _, ret1 rfl rfl, [], .nil, ?_, rfl⟩
          have hmem : (m : Int) ∈ f.params.take k := by simpa [seenV] using h
          have : decide f.params.Nodup = false := by
            rw [decide_eq_false_iff_not]
            intro hN
            rw [← List.take_append_drop k f.params, List.nodup_append] at hN
            exact hN.2.2 _ hmem _ (List.mem_of_getElem? (i := 0) (by rw [List.getElem?_drop]; exact hp)) rfl
          rw [whole_split, this, Bool.and_false]; rfl
        have hmem : (m : Int) ∉ f.params.take k := by simpa [seenV] using h
        refine Cd.skip ?_
        refine Cd.region ?_
        refine Ol.p mvi ?_
        refine Ol.p (ixl1 (ix := m) ar_ir_set) ?_
        refine Ol.s (sto (k := m) (.inr sz_bool) rfl rfl (i := 0) rfl (by rw [encV_size]; exact hm) rfl) ?_
        refine Ol.nil ?_
        refine Cd.region ?_
        refine Ol.p addi ?_
        refine Ol.p mvi ?_
        refine Ol.nil ?_
        have e : (encV (seenV (f.params.take k))).setIfInBounds m (.bool true) = encV (seenV (f.params.take (k + 1))) := encV_put fun j hj => by
          unfold putV seenV
          rw [take_snoc_ hp]
          by_cases e : j = m
          · subst e; simp
          · have : ¬ (j : Int) = (m : Int) := by omega
            simp [e, this]
        refine ⟨f.params.length - (k + 1), by omega, k + 1, rfl, by omega, ⟨rfl, rfl, rfl, rfl, rfl, trivial⟩, congrArg (fun cs => [blk g3 (.cells cs 124), blk g1 (.cells f.cells.toArray 38)]) e.symm, ?_, ?_⟩
        · rw [take_snoc_ hp]
          intro n hn
          rcases List.mem_append.1 hn with h1 | h1
          · exact hv n h1
          · have : n = (m : Int) := by simpa using h1
            rw [this]; exact hvp
        · rw [take_snoc_ hp]
          exact nodup_snoc hnd hmem
    have hk2 : k = f.params.length := by
      simp only [decide_eq_false_iff_not] at h; omega
    subst hk2
    rw [List.take_length] at hv hnd
    refine Cd.exit (id := 0) ?_
    exact ⟨_, ⟨by rw [List.all_eq_true]; exact hv, hnd⟩, ⟨rfl, trivial⟩, rfl⟩
  rintro σ' _ ⟨Z, ⟨hv, hnd⟩, hs', rfl⟩
  refine Cd.has hs' ?_
  have hsplit : wholeF f = f.blocks.all wholeB := by
    rw [whole_split, hv, decide_eq_true hnd]; rfl
  refine Cd.seq ?_
  refine Cd.seq ?_
  refine Cd.region ?_
  refine Ol.p (fdl fd_api_Func_1) ?_
  refine Ol.p (ld one_L_api_Block (Rd.blk (i := 1) rfl rfl)) ?_
  refine Ol.p (lens sl_L_api_Block) ?_
  refine Ol.p mvi ?_
  refine Ol.nil ?_
  refine Cd.block ?_   -- 2
  refine Cd.loop (fun m σ L => ∃ k, m = f.blocks.length - k ∧ k ≤ f.blocks.length ∧ Has σ [(1, .pointer (some ⟨g1, 0, none⟩)), (27, .slice f.bA f.blocks.length f.bC), (28, .int .i64 f.blocks.length), (29, .int .i64 k)] ∧ [blk g3 (.cells Z 124), blk g1 (.cells f.cells.toArray 38)] = L ∧ ∀ b ∈ f.blocks.take k, wholeB b = true) (n := f.blocks.length) ⟨0, rfl, Nat.zero_le _, ⟨rfl, rfl, rfl, rfl, trivial⟩, rfl, by simp⟩ ?_
  rintro _ σ L ⟨k, rfl, hk, hs, rfl, hw⟩
  refine Cd.has hs ?_
  refine Cd.seq ?_
  refine Cd.region ?_
  refine Ol.p lsi ?_
  refine Ol.nil ?_
  refine Cd.seq ?_
  refine Cd.cond rfl (fun h => ?_) (fun h => ?_)   -- $30
  · have hlt : k < f.blocks.length := by
      simp only [decide_eq_true_eq] at h; omega
    obtain ⟨b, hb⟩ : ∃ b, f.blocks[k]? = some b := ⟨_, List.getElem?_eq_getElem hlt⟩
    have hbm := List.mem_of_getElem? hb
    have hba := hf.blk hfit hbm
    have hbl2 := hba.len
    have hno : wholeB b = false → wholeF f = false := fun h0 => by
      rw [hsplit, List.all_eq_false]
      exact ⟨b, hbm, by rw [h0]; simp⟩
    refine Cd.skip ?_
    refine Cd.seq ?_
    refine Cd.block ?_   -- 3
    refine Cd.seq ?_
    refine Cd.region ?_
    refine Ol.p (ixn sl_L_api_Block (Som.slc hf.blocks (by omega))) ?_
    refine Ol.p (lds (es := b.cells) ag_api_Block hf.blocks b.len (fun j u hu => blk_cell hb hu)) ?_
    refine Ol.x (alc zr_api_Block) ?_
    rintro _ _ ⟨g7, rfl, rfl⟩
    refine Ol.s (stw sz_api_Block rfl b.one (i := 0) rfl rfl) ?_
    refine Ol.nil ?_
    refine Cd.seq ?_
    cases ht : isTerm b.term with
    | false =>
      have hg : (!isTerm b.term) = true := by rw [ht]; rfl
      refine Cd.region ?_
      refine Ol.p (fdl fd_api_Block_1) ?_
      refine Ol.p (ldp (k := 0 + 1) (vs := b.term.cells.toArray) ag_api_Term (i := 0) rfl rfl (fun j u hu => by rw [Nat.zero_add, Nat.add_comm]; simpa [RBlk.cells] using hu)) ?_
      refine Ol.s (cl en_ir_IsTerm (fun M w' hh => ir_IsTerm_ct (t := b.term))) ?_
      refine Ol.p noti ?_
      refine Ol.p mvb ?_
      refine Ol.gn hg ?_
      refine Ol.gn hg ?_
      refine Ol.gn hg ?_
      refine Ol.p (pkTb hg) ?_
      refine Ol.nil ?_
      refine Cd.cond rfl (fun h => ?_) (fun h => by cases h)   -- $41
      refine Cd.seq ?_
      refine Cd.region ?_
      refine Ol.p asb ?_
      refine Ol.nil ?_
      refine Cd.ret ⟨.bool _, ret1 rfl rfl, [], .nil, ?_, rfl⟩
      rw [hno (by unfold wholeB; rw [ht]; rfl)]
    | true =>
      have hg : (!isTerm b.term) = false := by rw [ht]; rfl
      refine Cd.region ?_
      refine Ol.p (fdl fd_api_Block_1) ?_
      refine Ol.p (ldp (k := 0 + 1) (vs := b.term.cells.toArray) ag_api_Term (i := 0) rfl rfl (fun j u hu => by rw [Nat.zero_add, Nat.add_comm]; simpa [RBlk.cells] using hu)) ?_
      refine Ol.s (cl en_ir_IsTerm (fun M w' hh => ir_IsTerm_ct (t := b.term))) ?_
      refine Ol.p noti ?_
      refine Ol.p mvb ?_
      refine Ol.gp hg (fdl fd_api_Block_0) ?_
      refine Ol.gp hg (ld one_L_api_Ins (Rd.blk (i := 0) rfl rfl)) ?_
      refine Ol.gs hg (cl en_slices_ContainsFunc_L_api_Ins_api_Ins (fun M w' hh => slices_ContainsFunc_Ins_ct (g := 92) (fst := #[]) (cap := #[]) (p := fun i => !isIns i) ((hba.now hh).ins) (by omega) ⟨en_ir_whole_1, fun i hi w2 h2 => ir_whole_1_ct (((hba.now hh).all i hi).below h2)⟩)) ?_
      refine Ol.p (pkFb hg) ?_
      refine Ol.nil ?_
      refine Cd.cond rfl (fun h => ?_) (fun h => ?_)   -- $41
      · refine Cd.seq ?_
        refine Cd.region ?_
        refine Ol.p asb ?_
        refine Ol.nil ?_
        refine Cd.ret ⟨.bool _, ret1 rfl rfl, [], .nil, ?_, rfl⟩
        rw [hno ?_]
        unfold wholeB
        rw [ht, Bool.true_and, List.all_eq_false]
        rw [List.any_eq_true] at h
        obtain ⟨i, hi, h3⟩ := h
        exact ⟨i, hi, by simpa using h3⟩
      have hwb : wholeB b = true := by
        unfold wholeB
        rw [ht, Bool.true_and, List.all_eq_true]
        rw [List.any_eq_false] at h
        intro i hi
        have := h i hi
        simpa using this
      refine Cd.keep (.sub (.cons _ (List.Sublist.refl _))) ?_
      refine Cd.skip ?_
      refine Cd.region ?_
      refine Ol.p addi ?_
      refine Ol.p mvi ?_
      refine Ol.nil ?_
      refine ⟨f.blocks.length - (k + 1), by omega, k + 1, rfl, by omega, ⟨rfl, rfl, rfl, rfl, trivial⟩, rfl, ?_⟩
      rw [take_snoc_ hb]
      intro x hx
      rcases List.mem_append.1 hx with h1 | h1
      · exact hw x h1
      · have : x = b := by simpa using h1
        rw [this]; exact hwb
  have hk2 : k = f.blocks.length := by
    simp only [decide_eq_false_iff_not] at h; omega
  subst hk2
  rw [List.take_length] at hw
  refine Cd.exit (id := 2) ?_
  refine Cd.seq ?_
  refine Cd.region ?_
  refine Ol.p asb ?_
  refine Ol.nil ?_
  refine Cd.ret ⟨.bool _, ret1 rfl rfl, [], .nil, ?_, rfl⟩
  have : f.blocks.all wholeB = true := by rw [List.all_eq_true]; exact hw
  rw [hsplit, this]
end
end Go.Proofs.YtbcnejobnmljlaaDoor

/- A slice that starts somewhere in a block of one's own, and grows at its end: append. Over any program. -/
namespace Go.Proofs.YtbcnejobnmljlaaDoor
set_option linter.unusedVariables false
open Go Go.RowKit

def Queue (i e n : Nat) (xs : List Value) (L : List Res) : Value → List Res → Prop := fun v L' => ∃ g off c cs, v = .slice (some ⟨g, off, none⟩) n c ∧ L' = L.set i (blk g (.cells cs e)) ∧ off + c ≤ cs.size ∧ n ≤ c ∧ ∀ j u, xs[j]? = some u → cs[off + j]? = some u
section
variable {P : Program} {w0 : World} {B : Nat} {σ : Env} {L : List Res} {d : Option Nat} {ty T : TypeId} {pos : String} {af : Array Edge} {gd : Option (Nat × Bool)} {x y : Operand}
theorem apq {i g off n c b m c2 e : Nat} {A2 : Option Addr} {cs : Array Value} {xs ys : List Value} {zv : Value} (hT : SlT P T e 1 b) (hz : ZrT P e zv) (hzs : zv.cells.size = 1) (hi : L[i]? = some (blk g (.cells cs e))) (hsz : off + c ≤ cs.size) (hnc : n ≤ c) (hxl : xs.length = n)
    (hold : ∀ j u, xs[j]? = some u → cs[off + j]? = some u) (hsrc : Src w0 B L A2 m 1 ys) (h1 : ∀ u ∈ ys, u.oneCell' = true) (hml : n + m ≤ maxLen) (hby : (n + m) * b ≤ 140737488355328) (hx : ev σ x = .slice (some ⟨g, off, none⟩) n c := by exact rfl) (hy : ev σ y = .slice A2 m c2 := by exact rfl) :
    Sp P w0 B ⟨d, .call { callee := .builtin .append, args := #[x, y], argTypes := #[T, T] }, ty, pos, af, gd⟩ σ L (Queue i e (n + m) (xs ++ ys) L) := fun M w hh => by
  obtain ⟨inf, hi1, he⟩ := info_of hT.2
  simp only [Prod.mk.injEq] at he
  obtain ⟨i2, hi2, hz2⟩ := info_of hz
  rw [hi1] at hi2
  cases hi2
  have hg : w.heap[g]? = some (.cells cs e (0, 0)) := hh.at_ hi
  have hyl : ys.length = m := by have := hsrc.1; omega
  have key : ∃ v' w', (Builtin.append_ #[T, T] ty #[.slice (some ⟨g, off, none⟩) n c, .slice A2 m c2]).run P w = .ok v' w' ∧ Stp (fun k => k = g) w w' ∧ ∃ g' off' c' cs', v' = .slice (some ⟨g', off', none⟩) (n + m) c' ∧ w'.heap[g']? = some (.cells cs' e (0, 0)) ∧ (g' = g ∨ (w.heap.size ≤ g' ∧ g' < w'.heap.size)) ∧ off' + c' ≤ cs'.size ∧ n + m ≤ c' ∧ ∀ j u, (xs ++ ys)[j]? = some u → cs'[off' + j]? = some u := by
    rcases hsrc.2 M w hh with ⟨rfl, rfl⟩ | ⟨a, rfl, hc⟩
    · have hy0 : ys = [] := List.eq_nil_of_length_eq_zero hyl
      subst hy0
      refine ⟨.slice (some ⟨g, off, none⟩) n c, w, ?_, Stp.refl _ _, g, off, c, cs, rfl, hg, .inl rfl, hsz, hnc, by simpa using hold⟩
      simp [Builtin.append_, run_underlying hT.1, sizeOf, typeInfo, hi1, Builtin.lenOf, Builtin.firstCells, hnc, storeCells]
    · by_cases hroom : n + m ≤ c
      · have hfc := run_firstCells_some (P := P) w inf.size m a m c2 ys (by rw [he.1]; exact hsrc.1) hc
        obtain ⟨w', hst, hstp, hg'⟩ := run_storeCells_all (P := P) (g := g) (e := e) ys (off + n * inf.size) 0 cs w hg (by rw [he.1]; omega) h1
        simp only [Nat.add_zero] at hst hg'
        refine ⟨.slice (some ⟨g, off, none⟩) (n + m) c, w', ?_, hstp, g, off, c, _, rfl, hg', .inl rfl, ?_, hroom, ?_⟩
        · simp [Builtin.append_, run_underlying hT.1, sizeOf, typeInfo, hi1, Builtin.lenOf, hroom, hfc, Addr.add_lit, hst]
        · simp only [List.size_toArray, List.length_append, List.length_take, List.length_drop, Array.length_toList, he.1]
          omega
        · intro j u hu
          simp only [he.1, Nat.mul_one, List.getElem?_toArray]
          have htl : (cs.toList.take (off + n)).length = off + n := by simp; omega
          rcases Nat.lt_or_ge j n with hj | hj
          · rw [List.getElem?_append_left (by omega)] at hu
            rw [List.append_assoc, List.getElem?_append_left (by omega), List.getElem?_take, if_pos (by omega), Array.getElem?_toList]
            exact hold j u hu
          · rw [List.getElem?_append_right (by omega)] at hu
            have hjl := (List.getElem?_eq_some_iff.1 hu).1
            rw [List.append_assoc, List.getElem?_append_right (by omega), htl, List.getElem?_append_left (by omega)]
            rw [show off + j - (off + n) = j - xs.length by omega]
            exact hu
      · have holds : ∀ j u, xs[j]? = some u → w.cell? ((⟨g, off, none⟩ : Addr).add j) = some u := fun j u hu => by
          rw [Addr.add_lit, cell_of_row w g (off + j) cs e (0, 0) hg]
          exact hold j u hu
        obtain ⟨v', w', hr, hown, hgr⟩ := run_append_arg_grows (P := P) w T ty e inf zv 1 b hT.1 hi1 hz2 he.1 he.2 hzs (by decide) ⟨g, off, none⟩ n c xs (by omega) holds a m c2 ys hsrc.1 hc (by omega) hml hby
        rcases hown.2 with ⟨rfl, h0⟩ | ⟨g', cap, cur, rfl, hb', hg', hnc', _, hcs, htake⟩
        · omega
        · refine ⟨_, w', hr, (Stp.of_grown hgr).mono (fun k _ hk => by cases hk), g', 0, cap, cur, rfl, hg', .inr ⟨hb', ?_⟩, by omega, hnc', ?_⟩
          · exact (Array.getElem?_eq_some_iff.1 hg').1
          · intro j u hu
            have hj := (List.getElem?_eq_some_iff.1 hu).1
            have : (cur.toList.take ((n + m) * 1))[j]? = some u := by rw [htake]; exact hu
            rw [List.getElem?_take] at this
            split at this
            · rw [Nat.zero_add]; simpa using this
            · cases this
  obtain ⟨v', w', hr, hstp, g', off', c', cs', rfl, hg', hgg, h2, h3, h4⟩ := key
  refine .inl ⟨_, w', ?_, _, hh.set (r' := blk g' (.cells cs' e)) hi hstp hg' (fun k hk => ?_), g', off', c', cs', rfl, rfl, h2, h3, h4⟩
  · simp [execOp, hx, hy, resolve, invoke, builtin, hr]
  · rcases hgg with e1 | e1
    · left
      have : k = g' := hk
      show k = g
      omega
    · right
      have : k = g' := hk
      omega
end
end Go.Proofs.YtbcnejobnmljlaaDoor

/- The package ir: which blocks are reached, walked. -/
namespace Go.Proofs.YtbcnejobnmljlaaDoor
set_option linter.unusedVariables false
open Go Go.RowKit
set_option maxRecDepth 100000

theorem intsN_one' (l : List Nat) : ∀ u ∈ intsN l, u.oneCell' = true := by
  intro u hu
  unfold intsN at hu
  rw [List.mem_map] at hu
  obtain ⟨_, _, rfl⟩ := hu
  rfl
theorem slq {P : Program} {w0 : World} {B : Nat} {σ : Env} {L : List Res} {d : Option Nat} {ty T : TypeId} {pos : String} {af : Array Edge} {gd : Option (Nat × Bool)} {x y : Operand} {g off off' n c e b : Nat} {k : IntKind} (hT : SlT P T e 1 b) (hl : 1 ≤ n) (ho : off' = if c = 1 then off else off + 1) (hx : ev σ x = .slice (some ⟨g, off, none⟩) n c := by exact rfl) (hy : ev σ y = .int k ((1 : Nat) : Int) := by exact rfl) :
    Sd P w0 B ⟨d, .slice T x (some y) none none, ty, pos, af, gd⟩ σ L (.slice (some ⟨g, off', none⟩) (n - 1) (c - 1)) := by
  have := sll (d := d) (ty := ty) (pos := pos) (af := af) (gd := gd) (P := P) (w0 := w0) (B := B) (L := L) (l := 1) hT hl hx hy
  have e : (if c = 1 then (some ⟨g, off, none⟩ : Option Addr) else (some ⟨g, off, none⟩ : Option Addr).map (·.add (1 * 1))) = some ⟨g, off', none⟩ := by
    rw [ho]
    by_cases e : c = 1 <;> simp [e, add_lit_]
  rwa [e] at this
section
set_option maxHeartbeats 4000000 in
theorem ir_reach_ct {w : World} {f : RFun} (hf : FunAt w w.heap.size f) (hfit : Fit f) (h0 : 0 < f.blocks.length) (h200 : f.blocks.length ≤ 200) :
    Ct Tryd.prog 72 #[f.val] w (Is (.tuple (bif okEs f.terms then #[.int .i64 ((orderF f.terms).length : Nat), .bool true] else #[.int .i64 0, .bool false]))) := by
  have htl : f.terms.length = f.blocks.length := by simp [RFun.terms]
  refine Ct.mk Tryd.func72 rfl rfl ?_
  refine Cd.seq ?_
  refine Cd.region ?_
  refine Ol.x bxg ?_
  rintro _ _ ⟨g1, rfl, rfl⟩
  refine Ol.p asi ?_
  refine Ol.p asb ?_
  refine Ol.nil ?_
  refine Cd.seq ?_
  refine Cd.region ?_
  refine Ol.p (fdl fd_api_Func_1) ?_
  refine Ol.p (ld one_L_api_Block (Rd.blk (i := 0) rfl rfl)) ?_
  refine Ol.p (lens sl_L_api_Block) ?_
  refine Ol.x (mks (n := f.blocks.length) (c := f.blocks.length) sl_L_bool zr_bool) ?_
  rintro _ _ ⟨gs, rfl, rfl⟩
  refine Ol.p ass ?_
  refine Ol.nil ?_
  rw [show (madeCells (Value.bool false).cells (f.blocks.length * 1)).toList.take (f.blocks.length * 1) = boolsL f.blocks.length fun _ => false from made_bools _]
  obtain ⟨L0, hL0⟩ : ∃ L0, L0 = [row (.slice (some ⟨gs, 0, none⟩) f.blocks.length f.blocks.length) 4 1 f.blocks.length (boolsL f.blocks.length fun _ => false), blk g1 (.cells f.cells.toArray 38)] := ⟨_, rfl⟩
  refine Cd.mid (fun σ' L' => okEs f.terms = true ∧ Has σ' [(1, .pointer (some ⟨g1, 0, none⟩)), (2, .int .i64 0), (4, .slice (some ⟨gs, 0, none⟩) f.blocks.length f.blocks.length)] ∧ L0 = L') ?_ ?_
  · refine Cd.seq ?_
    refine Cd.region ?_
    refine Ol.p (fdl fd_api_Func_1) ?_
    refine Ol.p (ld one_L_api_Block (Rd.blk (i := 1) rfl rfl)) ?_
    refine Ol.p (lens sl_L_api_Block) ?_
    refine Ol.p mvi ?_
    refine Ol.nil ?_
    refine Cd.block ?_   -- 0
    refine Cd.loop (fun m σ L => ∃ k, m = f.blocks.length - k ∧ k ≤ f.blocks.length ∧ Has σ [(1, .pointer (some ⟨g1, 0, none⟩)), (2, .int .i64 0), (4, .slice (some ⟨gs, 0, none⟩) f.blocks.length f.blocks.length), (16, .slice f.bA f.blocks.length f.bC), (17, .int .i64 f.blocks.length), (18, .int .i64 k)] ∧ L0 = L ∧ ∀ t ∈ f.terms.take k, (toL t).all (fun n => decide (1 ≤ n) && decide (n < (f.terms.length : Int))) = true) (n := f.blocks.length) ⟨0, rfl, Nat.zero_le _, ⟨rfl, rfl, rfl, rfl, rfl, rfl, trivial⟩, hL0, by simp⟩ ?_
    rintro _ σ L ⟨k, rfl, hk, hs, rfl, hall⟩
    refine Cd.has hs ?_
    refine Cd.seq ?_
    rw [hL0]
    refine Cd.region ?_
    refine Ol.p lsi ?_
    refine Ol.nil ?_
    refine Cd.seq ?_
    refine Cd.cond rfl (fun h => ?_) (fun h => ?_)   -- $19
    · have hlt : k < f.blocks.length := by
        simp only [decide_eq_true_eq] at h; omega
      obtain ⟨b, hb⟩ : ∃ b, f.blocks[k]? = some b := ⟨_, List.getElem?_eq_getElem hlt⟩
      have ht : f.terms[k]? = some b.term := by simp [RFun.terms, hb]
      have hbm := List.mem_of_getElem? hb
      refine Cd.skip ?_
      refine Cd.seq ?_
      refine Cd.block ?_   -- 1
      refine Cd.seq ?_
      refine Cd.region ?_
      refine Ol.p (ixn sl_L_api_Block (Som.slc hf.blocks (by omega))) ?_
      refine Ol.p (lds (es := b.cells) ag_api_Block hf.blocks b.len (fun j u hu => blk_cell hb hu)) ?_
      refine Ol.x (alc zr_api_Block) ?_
      rintro _ _ ⟨g6, rfl, rfl⟩
      refine Ol.s (stw sz_api_Block rfl b.one (i := 0) rfl rfl) ?_
      refine Ol.nil ?_
      refine Cd.seq ?_
      refine Cd.region ?_
      refine Ol.p (fdl fd_api_Block_1) ?_
      refine Ol.p (ldp (k := 0 + 1) (vs := b.term.cells.toArray) ag_api_Term (i := 0) rfl rfl (fun j u hu => by rw [Nat.zero_add, Nat.add_comm]; simpa [RBlk.cells] using hu)) ?_
      refine Ol.x (sp_call en_ir_To (fun M w' hh => ir_To_ct (t := b.term))) ?_
      rintro _ _ ⟨_, rfl, A24, c24, rfl, rfl⟩
      refine Ol.p (lens sl_L_int) ?_
      refine Ol.p mvi ?_
      refine Ol.nil ?_
      obtain ⟨to, hto⟩ : ∃ to, to = toL b.term := ⟨_, rfl⟩
      have htoL := toL_len b.term
      rw [← hto] at htoL ⊢
      refine Cd.block ?_   -- 2
      obtain ⟨L1, hL1⟩ : ∃ L1, L1 = row (.slice A24 to.length c24) 3 1 to.length (ints to) :: blk g6 (.cells b.cells.toArray 66) :: L0 := ⟨_, rfl⟩
      refine Cd.loop (fun m σ L => ∃ j, m = to.length - j ∧ j ≤ to.length ∧ Has σ [(1, .pointer (some ⟨g1, 0, none⟩)), (2, .int .i64 0), (4, .slice (some ⟨gs, 0, none⟩) f.blocks.length f.blocks.length), (16, .slice f.bA f.blocks.length f.bC), (17, .int .i64 f.blocks.length), (18, .int .i64 k), (24, .slice A24 to.length c24), (25, .int .i64 to.length), (26, .int .i64 j)] ∧ L1 = L ∧ ∀ n ∈ to.take j, 1 ≤ n ∧ n < (f.blocks.length : Int)) (n := to.length) ⟨0, rfl, Nat.zero_le _, ⟨rfl, rfl, rfl, rfl, rfl, rfl, rfl, rfl, rfl, trivial⟩, by rw [hL1, hL0]; rfl, by simp⟩ ?_
      clear hs
      rintro _ σ L ⟨j, rfl, hj, hs, rfl, hto2⟩
      refine Cd.has hs ?_
      refine Cd.seq ?_
      rw [hL1, hL0]
      refine Cd.region ?_
      refine Ol.p lsi ?_
      refine Ol.nil ?_
      refine Cd.seq ?_
      refine Cd.cond rfl (fun h2 => ?_) (fun h2 => ?_)   -- $27
      · have hjl : j < to.length := by
          simp only [decide_eq_true_eq] at h2; omega
        obtain ⟨n, hn⟩ : ∃ n, to[j]? = some n := ⟨_, List.getElem?_eq_getElem hjl⟩
        have hnm := List.mem_of_getElem? hn
        have hbad : ¬ (1 ≤ n ∧ n < (f.blocks.length : Int)) → okEs f.terms = false := fun hno => by
          unfold okEs
          rw [List.all_eq_false]
          refine ⟨b.term, List.mem_of_getElem? ht, ?_⟩
          rw [← hto]
          intro h3
          rw [List.all_eq_true] at h3
          have := h3 n hnm
          rw [htl] at this
          exact hno (by simpa using this)
        refine Cd.skip ?_
        refine Cd.seq ?_
        refine Cd.block ?_   -- 3
        refine Cd.seq ?_
        refine Cd.region ?_
        refine Ol.p (ixn1 (ix := j) sl_L_int (Som.row (i := 0) rfl (by omega))) ?_
        refine Ol.p (ld one_int (Rd.row (i := 0) rfl (ints_at hn))) ?_
        refine Ol.p asi ?_
        refine Ol.nil ?_
        refine Cd.seq ?_
        cases hlow : decide (n < 1) with
        | true =>
          refine Cd.region ?_
          refine Ol.p mvi ?_
          refine Ol.p lsi ?_
          refine Ol.p mvb ?_
          refine Ol.gn hlow ?_
          refine Ol.gn hlow ?_
          refine Ol.gn hlow ?_
          refine Ol.gn hlow ?_
          refine Ol.gn hlow ?_
          refine Ol.p (pkTb hlow) ?_
          refine Ol.nil ?_
          refine Cd.cond rfl (fun h => ?_) (fun h => by cases h)   -- $38
          refine Cd.seq ?_
          refine Cd.region ?_
          refine Ol.p asi ?_
          refine Ol.p asb ?_
          refine Ol.nil ?_
          refine Cd.ret ⟨.tuple _, ret2 rfl rfl rfl, [], .nil, ?_, rfl⟩
          rw [hbad (by simp only [decide_eq_true_eq] at hlow; omega)]; rfl
        | false =>
          refine Cd.region ?_
          refine Ol.p mvi ?_
          refine Ol.p lsi ?_
          refine Ol.p mvb ?_
          refine Ol.gp hlow mvi ?_
          refine Ol.gp hlow (fdl fd_api_Func_1) ?_
          refine Ol.gp hlow (ld one_L_api_Block (Rd.blk (i := 3) rfl rfl)) ?_
          refine Ol.gp hlow (lens sl_L_api_Block) ?_
          refine Ol.gp hlow gei ?_
          refine Ol.p (pkFb hlow) ?_
          refine Ol.nil ?_
          refine Cd.cond rfl (fun h => ?_) (fun h => ?_)   -- $38
          · refine Cd.seq ?_
            refine Cd.region ?_
            refine Ol.p asi ?_
            refine Ol.p asb ?_
            refine Ol.nil ?_
            refine Cd.ret ⟨.tuple _, ret2 rfl rfl rfl, [], .nil, ?_, rfl⟩
            rw [hbad (by simp only [decide_eq_true_eq] at h; omega)]; rfl
          refine Cd.skip ?_
          refine Cd.region ?_
          refine Ol.p addi ?_
          refine Ol.p mvi ?_
          refine Ol.nil ?_
          refine ⟨to.length - (j + 1), by omega, j + 1, rfl, by omega, ⟨rfl, rfl, rfl, rfl, rfl, rfl, rfl, rfl, rfl, trivial⟩, rfl, ?_⟩
          intro x hx
          rw [take_snoc_ hn] at hx
          rcases List.mem_append.1 hx with h3 | h3
          · exact hto2 x h3
          · have : x = n := by simpa using h3
            subst this
            simp only [decide_eq_false_iff_not] at h hlow
            omega
      have hj2 : j = to.length := by
        simp only [decide_eq_false_iff_not] at h2; omega
      subst hj2
      rw [List.take_length] at hto2
      refine Cd.exit (id := 2) ?_
      refine Cd.keep (.sub (.cons _ (.cons _ (List.Sublist.refl _)))) ?_
      refine Cd.region ?_
      refine Ol.p addi ?_
      refine Ol.p mvi ?_
      refine Ol.nil ?_
      refine ⟨f.blocks.length - (k + 1), by omega, k + 1, rfl, by omega, ⟨rfl, rfl, rfl, rfl, rfl, rfl, trivial⟩, rfl, ?_⟩
      intro x hx
      rw [take_snoc_ ht] at hx
      rcases List.mem_append.1 hx with h3 | h3
      · exact hall x h3
      · have : x = b.term := by simpa using h3
        subst this
        rw [← hto, List.all_eq_true]
        intro n hn
        have := hto2 n hn
        rw [htl]
        simpa using this
    have hk2 : k = f.blocks.length := by
      simp only [decide_eq_false_iff_not] at h; omega
    subst hk2
    rw [← htl, List.take_length] at hall
    refine Cd.exit (id := 0) ?_
    refine ⟨?_, ⟨rfl, rfl, rfl, trivial⟩, rfl⟩
    unfold okEs
    rw [List.all_eq_true]
    exact hall
  rintro σ' _ ⟨hok, hs', rfl⟩
  refine Cd.has hs' ?_
  have hcl := okEs_closed hok (by omega) (by omega)
  rw [hok, cond_true]
  refine Cd.seq ?_
  refine Cd.seq ?_
  rw [hL0]
  refine Cd.region ?_
  refine Ol.x (bsv [.int .i64 0] sl_L_int zr_int (by simp [Value.cells])) ?_
  rintro _ _ ⟨gq, rfl, rfl⟩
  refine Ol.p ass ?_
  refine Ol.nil ?_
  refine Cd.unrow (fun cs0 hcs1 hcs2 => ?_)
  refine Cd.block ?_   -- 4
  refine Cd.loop (fun m σ L => ∃ (S : Nat → Bool) (todo : List Nat) (g off c : Nat) (cs : Array Value), m = 3 * (f.blocks.length - cntB f.blocks.length S) + todo.length ∧ Bfs f.terms S todo ∧ todo.length ≤ 1 + 2 * cntB f.blocks.length S ∧ (off + c ≤ cs.size ∧ todo.length ≤ c ∧ ∀ j u, (intsN todo)[j]? = some u → cs[off + j]? = some u) ∧ Has σ [(1, .pointer (some ⟨g1, 0, none⟩)), (2, .int .i64 (cntB f.blocks.length S : Nat)), (4, .slice (some ⟨gs, 0, none⟩) f.blocks.length f.blocks.length), (9, .slice (some ⟨g, off, none⟩) todo.length c)] ∧
      [blk g (.cells cs 3), row (.slice (some ⟨gs, 0, none⟩) f.blocks.length f.blocks.length) 4 1 f.blocks.length (boolsL f.blocks.length S), blk g1 (.cells f.cells.toArray 38)] = L) (n := 3 * (f.blocks.length - cntB f.blocks.length fun _ => false) + 1)
    ⟨fun _ => false, [0], gq, 0, 1, cs0, rfl, Bfs.start (by omega), by simp, ⟨by omega, Nat.le_refl _, fun j u hu => ?_⟩, ⟨rfl, by rw [show cntB f.blocks.length (fun _ => false) = 0 by simp [cntB]]; rfl, rfl, rfl, trivial⟩, rfl⟩ ?_
  · have h3 : (cs0.toList.take (1 * 1))[j]? = some u := by rw [hcs2]; exact hu
    rw [List.getElem?_take] at h3
    split at h3
    · rw [Nat.zero_add]; simpa using h3
    · cases h3
  rintro _ σ L ⟨S, todo, g, off, c, cs, rfl, hB, hlen, ⟨hsz, hnc, hcell⟩, hs, rfl⟩
  refine Cd.has hs ?_
  have hcnt := cntB_le f.blocks.length S
  refine Cd.seq ?_
  refine Cd.seq ?_
  refine Cd.region ?_
  refine Ol.p mvs ?_
  refine Ol.p (lens sl_L_int) ?_
  refine Ol.p gti ?_
  refine Ol.nil ?_
  refine Cd.cond rfl (fun h => ?_) (fun h => ?_)   -- $44
  · obtain ⟨x, rest, rfl⟩ : ∃ x rest, todo = x :: rest := by
      cases todo with
      | nil => simp at h
      | cons x rest => exact ⟨x, rest, rfl⟩
    obtain ⟨hxl, hxr⟩ := hB.t x (by simp)
    rw [htl] at hxl
    obtain ⟨b, hb⟩ : ∃ b, f.blocks[x]? = some b := ⟨_, List.getElem?_eq_getElem hxl⟩
    have ht : f.terms[x]? = some b.term := by simp [RFun.terms, hb]
    have h00 : cs[off + 0]? = some (.int .i64 (x : Int)) := hcell 0 _ rfl
    have hrest : ∀ j u, (intsN rest)[j]? = some u → cs[(if c = 1 then off else off + 1) + j]? = some u := fun j u hu => by
      by_cases e : c = 1
      · have : rest.length = 0 := by simp only [List.length_cons] at hnc; omega
        have : rest = [] := List.eq_nil_of_length_eq_zero this
        subst this; simp [intsN] at hu
      · rw [if_neg e, show off + 1 + j = off + (j + 1) by omega]
        exact hcell (j + 1) u hu
    simp only [List.length_cons] at hnc hlen
    obtain ⟨off', hoff⟩ : ∃ off', off' = if c = 1 then off else off + 1 := ⟨_, rfl⟩
    have hsz' : off' + (c - 1) ≤ cs.size := by rw [hoff]; split <;> omega
    rw [← hoff] at hrest
    refine Cd.skip ?_
    refine Cd.block ?_   -- 5
    refine Cd.seq ?_
    refine Cd.region ?_
    refine Ol.p mvs ?_
    refine Ol.p (ixo (ix := 0) (n := rest.length + 1) sl_L_int) ?_
    refine Ol.p (ld one_int (Rd.blk (i := 0) rfl h00)) ?_
    refine Ol.p asi ?_
    refine Ol.nil ?_
    refine Cd.seq ?_
    refine Cd.region ?_
    refine Ol.p mvs ?_
    refine Ol.p (slq (n := rest.length + 1) (c := c) (off' := off') sl_L_int (by omega) hoff) ?_
    refine Ol.p ass ?_
    refine Ol.nil ?_
    refine Cd.seq ?_
    refine Cd.region ?_
    refine Ol.p mvs ?_
    refine Ol.p mvi ?_
    refine Ol.p (ixn1 (ix := x) sl_L_bool (Som.row (i := 1) rfl (by omega))) ?_
    refine Ol.p (ld one_bool (Rd.row (i := 1) rfl (boolsL_get hxl))) ?_
    refine Ol.p noti ?_
    refine Ol.nil ?_
    refine Cd.cond rfl (fun h2 => ?_) (fun h2 => ?_)   -- $54
    · have hSx : S x = false := by simpa using h2
      have hcs := cntB_set hxl hSx
      have hcl2 := cntB_le f.blocks.length (setB S x)
      have hat : ∀ n ∈ toL b.term, 0 ≤ n := fun n hn => by have := okEs_at hok (a := x) (by rw [toAt_some ht]; exact hn); omega
      have htoN : (toN b.term).length ≤ 2 := by have := toL_len b.term; unfold toN; rw [List.length_map]; exact this
      have htoN2 : (toL b.term).length = (toN b.term).length := by unfold toN; rw [List.length_map]
      have hB2 : Bfs f.terms (setB S x) (rest ++ toN b.term) := hB.see (fun q => by rw [mem_toN hat, toAt_some ht]) (fun q hq => by
        have := okEs_at hok (a := x) (n := (q : Int)) (by rw [toAt_some ht]; exact (mem_toN hat q).1 hq); omega)
      refine Cd.seq ?_
      refine Cd.region ?_
      refine Ol.p mvs ?_
      refine Ol.p mvi ?_
      refine Ol.p (ixn1 (ix := x) sl_L_bool (Som.row (i := 1) rfl (by omega))) ?_
      refine Ol.s (str (i := 1) (k := x) sz_bool rfl rfl rfl (by rw [boolsL_len]; exact hxl) rfl) ?_
      refine Ol.nil ?_
      refine Cd.seq ?_
      refine Cd.region ?_
      refine Ol.p mvi ?_
      refine Ol.p addi ?_
      refine Ol.p asi ?_
      refine Ol.nil ?_
      refine Cd.region ?_
      refine Ol.p mvs ?_
      refine Ol.p (fdl fd_api_Func_1) ?_
      refine Ol.p (ld one_L_api_Block (Rd.blk (i := 2) rfl rfl)) ?_
      refine Ol.p mvi ?_
      refine Ol.p (ixn (ix := x) sl_L_api_Block (Som.slc hf.blocks (by omega))) ?_
      refine Ol.p (fdp fd_api_Block_1) ?_
      refine Ol.p (lds (es := b.term.cells) ag_api_Term hf.blocks rfl (fun q u hu => by rw [Nat.add_assoc, hf.cell hb (j := 1 + q) (by have := (List.getElem?_eq_some_iff.1 hu).1; simp [Tm.cells] at this; omega), Nat.add_comm]; simpa [RBlk.cells] using hu)) ?_
      refine Ol.x (sp_call en_ir_To (fun M w' hh => ir_To_ct (t := b.term))) ?_
      rintro _ _ ⟨_, rfl, A67, c67, rfl, rfl⟩
      refine Ol.x (apq (i := 1) (n := rest.length) (c := c - 1) (m := (toL b.term).length) (xs := intsN rest) (ys := ints (toL b.term)) sl_L_int zr_int rfl rfl hsz' (by omega) (by simp [intsN]) hrest (Src.row (i := 0) rfl (by simp [ints])) (ints_one _) (by unfold maxLen; omega) (by omega)) ?_
      rintro _ _ ⟨g', off2, c', cs', rfl, rfl, hq1, hq2, hq3⟩
      refine Ol.p ass ?_
      refine Ol.keep (.sub (.cons _ (List.Sublist.refl _))) ?_
      refine Ol.nil ?_
      have e1 : rest.length + (toL b.term).length = (rest ++ toN b.term).length := by rw [List.length_append, htoN2]
      have e2 : intsN rest ++ ints (toL b.term) = intsN (rest ++ toN b.term) := by rw [toN_ints hat]; simp [intsN]
      rw [e1] at hq2 ⊢
      rw [e2] at hq3
      refine ⟨3 * (f.blocks.length - cntB f.blocks.length (setB S x)) + (rest ++ toN b.term).length, ?_, setB S x, rest ++ toN b.term, g', off2, c', cs', rfl, hB2, ?_, ⟨hq1, hq2, hq3⟩, ⟨rfl, ?_, rfl, rfl, trivial⟩, ?_⟩
      · rw [List.length_append, List.length_cons]; omega
      · rw [List.length_append]; omega
      · rw [hcs]; rfl
      · rw [← boolsL_set]; rfl
    have hSx : S x = true := by simpa using h2
    refine Cd.skip ?_
    exact ⟨3 * (f.blocks.length - cntB f.blocks.length S) + rest.length, by simp only [List.length_cons]; omega, S, rest, g, off', c - 1, cs, rfl, hB.pop hSx, by omega, ⟨hsz', by omega, hrest⟩, ⟨rfl, rfl, rfl, rfl, trivial⟩, rfl⟩
  have htodo : todo = [] := by
    cases todo with
    | nil => rfl
    | cons x rest => simp only [decide_eq_false_iff_not, List.length_cons] at h; omega
  subst htodo
  have hfin := hB.fin hcl
  rw [htl] at hfin
  refine Cd.exit (id := 4) ?_
  refine Cd.seq ?_
  refine Cd.region ?_
  refine Ol.p mvi ?_
  refine Ol.p asi ?_
  refine Ol.p asb ?_
  refine Ol.nil ?_
  refine Cd.ret ⟨.tuple _, ret2 rfl rfl rfl, [], .nil, ?_, rfl⟩
  rw [hfin]; rfl
end
end Go.Proofs.YtbcnejobnmljlaaDoor

/- The package ir: whether all that is read has a value; whether a function is right: walked. -/
namespace Go.Proofs.YtbcnejobnmljlaaDoor
set_option linter.unusedVariables false
open Go Go.RowKit
set_option maxRecDepth 100000

theorem ixi {P : Program} {w0 : World} {B : Nat} {σ : Env} {L : List Res} {d : Option Nat} {ty T : TypeId} {pos : String} {af : Array Edge} {gd : Option (Nat × Bool)} {x y : Operand} {g ix n c e b : Nat} {k : IntKind} (hT : SlT P T e 201 b) (hx : ev σ x = .slice (some ⟨g, 0, none⟩) n c := by exact rfl) (hy : ev σ y = .int k (ix : Int) := by exact rfl) (h : ix < n := by omega) :
    Sd P w0 B ⟨d, .indexAddr T x y, ty, pos, af, gd⟩ σ L (.pointer (some ⟨g, ix * 201, none⟩)) := by
  have := ixo (d := d) (ty := ty) (pos := pos) (af := af) (gd := gd) (P := P) (w0 := w0) (B := B) (L := L) hT hx hy h
  rwa [Nat.zero_add] at this
theorem trn_any {P : Program} {w0 : World} {B : Nat} {σ : Env} {r : Res} {L : List Res} {o : Oper} {v : Value} {g e : Nat} {cs : Array Value} (h : Sp P w0 B o σ (r :: L) (det v (blk g (.cells cs e) :: L))) : Sp P w0 B o σ (r :: L) (Adds (fun v' R => v' = v ∧ ∃ g cs, R = [blk g (.cells cs e)]) L) := fun M w hh =>
  Goes.mono (h M w hh) fun v' w' ⟨L', h1, h2, h3⟩ => ⟨L', h1, [blk g (.cells cs e)], h3, h2, g, cs, rfl⟩
theorem encV_len (s : VS) : (encV s).toList.length = 201 := by simp [encV]
section
set_option maxHeartbeats 8000000 in
theorem ir_valued_ct {w : World} {f : RFun} (hf : FunAt w w.heap.size f) (hfit : Fit f) (hl : longF f = false) (hw : wholeF f = true) (hok : okEs f.terms = true) : Ct Tryd.prog 73 #[f.val] w (Is (.bool (valuedF f))) := by
  have htl : f.terms.length = f.blocks.length := by simp [RFun.terms]
  have hlong : 0 < f.blocks.length ∧ f.blocks.length ≤ 200 ∧ f.params.length ≤ 8 := by
    unfold longF at hl
    simp only [Bool.or_eq_false_iff, decide_eq_false_iff_not] at hl
    omega
  obtain ⟨h0, h200, hp8⟩ := hlong
  have hvar : ∀ n ∈ f.params, 1 ≤ n ∧ n ≤ 200 := fun n hn => by
    rw [whole_split, Bool.and_eq_true, Bool.and_eq_true, List.all_eq_true] at hw
    exact varB_iff.1 (hw.1.1 n hn)
  obtain ⟨n, hn⟩ : ∃ n, n = f.blocks.length := ⟨_, rfl⟩
  have hto : ∀ (a : Nat) (x : RBlk), f.blocks[a]? = some x → ∀ m ∈ toL x.term, 1 ≤ m ∧ m < (n : Int) := fun a x ha m hm => by
    have ht : f.terms[a]? = some x.term := by simp [RFun.terms, ha]
    have := okEs_at hok (a := a) (by rw [toAt_some ht]; exact hm)
    omega
  refine Ct.mk Tryd.func73 rfl rfl ?_
  refine Cd.seq ?_
  refine Cd.region ?_
  refine Ol.x bxg ?_
  rintro _ _ ⟨g1, rfl, rfl⟩
  refine Ol.p asb ?_
  refine Ol.nil ?_
  refine Cd.seq ?_
  refine Cd.region ?_
  refine Ol.p (fdl fd_api_Func_1) ?_
  refine Ol.p (ld one_L_api_Block (Rd.blk (i := 0) rfl rfl)) ?_
  refine Ol.p (lens sl_L_api_Block) ?_
  refine Ol.x (mks (n := f.blocks.length) (c := f.blocks.length) sl_L_ir_set zr_ir_set) ?_
  rintro _ _ ⟨gi, rfl, rfl⟩
  refine Ol.p ass ?_
  refine Ol.nil ?_
  refine Cd.unrow (fun cs hcs1 hcs2 => ?_)
  have hcs : cs = inA n fun _ _ => false := by
    rw [← made_inA, hn]
    apply Array.ext'
    rw [List.take_of_length_le (by simp [hcs1])] at hcs2
    rw [hcs2, List.take_of_length_le (by simp [madeCells, Value.cells])]
    rfl
  subst hcs
  rw [← hn]
  obtain ⟨LF, hLF⟩ : ∃ LF, LF = blk g1 (.cells f.cells.toArray 38) := ⟨_, rfl⟩
  refine Cd.mid (fun σ' L' => Has σ' [(1, .pointer (some ⟨g1, 0, none⟩)), (3, .slice (some ⟨gi, 0, none⟩) n n)] ∧ [blk gi (.cells (inA n fun _ _ => true) 124), LF] = L') ?_ ?_
  · refine Cd.seq ?_
    refine Cd.region ?_
    refine Ol.p mvs ?_
    refine Ol.p (lens sl_L_ir_set) ?_
    refine Ol.p mvi ?_
    refine Ol.nil ?_
    refine Cd.block ?_   -- 0
    refine Cd.loop (fun m σ L => ∃ k, m = n - k ∧ k ≤ n ∧ Has σ [(1, .pointer (some ⟨g1, 0, none⟩)), (3, .slice (some ⟨gi, 0, none⟩) n n), (25, .int .i64 n), (26, .int .i64 k)] ∧ [blk gi (.cells (inA n fun b _ => decide (b < k)) 124), LF] = L) (n := n) ⟨0, rfl, Nat.zero_le _, ⟨rfl, rfl, rfl, rfl, trivial⟩, by rw [hLF, inA_congr (J := fun _ _ => false) (fun b v _ _ => by simp)]⟩ ?_
    rintro _ σ L ⟨k, rfl, hk, hs, rfl⟩
    refine Cd.has hs ?_
    refine Cd.seq ?_
    refine Cd.region ?_
    refine Ol.p lsi ?_
    refine Ol.nil ?_
    refine Cd.seq ?_
    refine Cd.cond rfl (fun h => ?_) (fun h => ?_)   -- $27
    · have hlt : k < n := by
        simp only [decide_eq_true_eq] at h; omega
      refine Cd.skip ?_
      refine Cd.seq ?_
      refine Cd.block ?_   -- 1
      refine Cd.seq ?_
      refine Cd.region ?_
      refine Ol.p mvi ?_
      refine Ol.p asi ?_
      refine Ol.nil ?_
      refine Cd.region ?_
      refine Ol.p mvs ?_
      refine Ol.p mvi ?_
      refine Ol.s (cl en_ir_full (fun M w' hh => ir_full_ct)) ?_
      refine Ol.p (ixi (ix := k) sl_L_ir_set) ?_
      refine Ol.s (sta (k := k * 201) sz_ir_set (encV_size _) (encV_one _) (i := 0) rfl (by rw [inA_size]; have : (k + 1) * 201 ≤ n * 201 := Nat.mul_le_mul_right _ hlt; omega)) ?_
      refine Ol.nil ?_
      refine Cd.region ?_
      refine Ol.p addi ?_
      refine Ol.p mvi ?_
      refine Ol.nil ?_
      refine ⟨n - (k + 1), by omega, k + 1, rfl, by omega, ⟨rfl, rfl, rfl, rfl, trivial⟩, congrArg (fun cs => [blk gi (.cells cs 124), LF]) (Eq.symm ((inA_sta hlt).trans (inA_congr fun b v hb hv => ?_)))⟩
      unfold setI
      by_cases e : b = k
      · rw [if_pos e]; simp [e]
      · rw [if_neg e, decide_eq_decide]; omega
    have hk2 : k = n := by
      simp only [decide_eq_false_iff_not] at h; omega
    subst hk2
    refine Cd.exit (id := 0) ?_
    exact ⟨⟨rfl, rfl, trivial⟩, by rw [inA_congr (I := fun b _ => decide (b < k)) (J := fun _ _ => true) (fun b v hb _ => by simpa using hb)]⟩
  rintro σ' _ ⟨hs', rfl⟩
  refine Cd.has hs' ?_
  clear hs'
  refine Cd.seq ?_
  refine Cd.region ?_
  refine Ol.p mvs ?_
  refine Ol.p (bda (cs := encV fun _ => false) ar_ir_set zr_ir_set (hf := by rw [← zeroV]; rfl)) ?_
  refine Ol.p (ixi (ix := 0) sl_L_ir_set) ?_
  refine Ol.s (sta (k := 0 * 201) sz_ir_set (encV_size _) (encV_one _) (i := 0) rfl (by rw [inA_size]; have : (0 + 1) * 201 ≤ n * 201 := Nat.mul_le_mul_right _ (by omega); omega)) ?_
  refine Ol.nil ?_
  rw [show ((inA n fun _ _ => true).toList.take (0 * 201) ++ (encV fun _ => false).toList ++ (inA n fun _ _ => true).toList.drop (0 * 201 + 201)).toArray = inA n (setI (fun _ _ => true) 0 fun _ => false) from inA_sta (by omega)]
  refine Cd.mid (fun σ' L' => Has σ' [(1, .pointer (some ⟨g1, 0, none⟩)), (3, .slice (some ⟨gi, 0, none⟩) n n)] ∧ ∃ I, Val f I ∧ [blk gi (.cells (inA n I) 124), LF] = L') ?_ ?_
  · refine Cd.seq ?_
    rw [hLF]
    refine Cd.region ?_
    refine Ol.p (fdl fd_api_Func_0) ?_
    refine Ol.p (ld one_L_int (Rd.blk (i := 1) rfl rfl)) ?_
    refine Ol.p (lens sl_L_int) ?_
    refine Ol.p mvi ?_
    refine Ol.nil ?_
    refine Cd.block ?_   -- 2
    refine Cd.loop (fun m σ L => ∃ k s, m = f.params.length - k ∧ k ≤ f.params.length ∧ Has σ [(1, .pointer (some ⟨g1, 0, none⟩)), (3, .slice (some ⟨gi, 0, none⟩) n n), (38, .slice f.pA f.params.length f.pC), (39, .int .i64 f.params.length), (40, .int .i64 k)] ∧ [blk gi (.cells (inA n (setI (fun _ _ => true) 0 s)) 124), LF] = L ∧ ∀ v, s v = true ↔ ∃ p ∈ f.params.take k, p.toNat = v) (n := f.params.length) ⟨0, fun _ => false, rfl, Nat.zero_le _, ⟨rfl, rfl, rfl, rfl, rfl, trivial⟩, by rw [hLF]; rfl, by simp⟩ ?_
    rintro _ σ L ⟨k, s, rfl, hk, hs, rfl, hsv⟩
    refine Cd.has hs ?_
    refine Cd.seq ?_
    refine Cd.region ?_
    refine Ol.p lsi ?_
    refine Ol.nil ?_
    refine Cd.seq ?_
    refine Cd.cond rfl (fun h => ?_) (fun h => ?_)   -- $41
    · have hlt : k < f.params.length := by
        simp only [decide_eq_true_eq] at h; omega
      obtain ⟨p, hp⟩ : ∃ p, f.params[k]? = some p := ⟨_, List.getElem?_eq_getElem hlt⟩
      have hpr := hvar p (List.mem_of_getElem? hp)
      obtain ⟨m, rfl⟩ : ∃ m : Nat, p = (m : Int) := ⟨p.toNat, by omega⟩
      have hm : m < 201 := by omega
      refine Cd.skip ?_
      refine Cd.seq ?_
      refine Cd.block ?_   -- 3
      refine Cd.seq ?_
      refine Cd.region ?_
      refine Ol.p (ixn1 (ix := k) sl_L_int (Som.slc hf.params (by omega))) ?_
      refine Ol.p (ld one_int (Rd.slc hf.params (ints_at hp))) ?_
      refine Ol.p asi ?_
      refine Ol.nil ?_
      refine Cd.region ?_
      refine Ol.p mvs ?_
      refine Ol.p mvi ?_
      refine Ol.p (ixi (ix := 0) sl_L_ir_set) ?_
      refine Ol.p (ixl1 (ix := m) ar_ir_set) ?_
      refine Ol.s (sto (k := m) (.inr sz_bool) rfl rfl (i := 0) rfl (by rw [inA_size]; omega) rfl) ?_
      refine Ol.nil ?_
      refine Cd.region ?_
      refine Ol.p addi ?_
      refine Ol.p mvi ?_
      refine Ol.nil ?_
      have e : (inA n (setI (fun _ _ => true) 0 s)).setIfInBounds m (.bool true) = inA n (setI (fun _ _ => true) 0 (putV s m true)) := by
        have := inA_put (n := n) (b := 0) (v := m) (u := true) (I := setI (fun _ _ => true) 0 s) hm
        rw [Nat.zero_mul, Nat.zero_add] at this
        rw [this]
        refine inA_congr fun b v hb hv => ?_
        unfold setI
        by_cases e : b = 0 <;> simp [e]
      refine ⟨f.params.length - (k + 1), by omega, k + 1, putV s m true, rfl, by omega, ⟨rfl, rfl, rfl, rfl, rfl, trivial⟩, congrArg (fun cs => [blk gi (.cells cs 124), LF]) e.symm, fun v => ?_⟩
      rw [take_snoc_ hp]
      unfold putV
      by_cases e2 : v = m
      · rw [if_pos e2]
        simp only [true_iff]
        exact ⟨(m : Int), by simp, by simp [e2]⟩
      · rw [if_neg e2, hsv]
        constructor
        · rintro ⟨p, h1, h2⟩; exact ⟨p, by simp [h1], h2⟩
        · rintro ⟨p, h1, h2⟩
          rcases List.mem_append.1 h1 with h1 | h1
          · exact ⟨p, h1, h2⟩
          · have : p = (m : Int) := by simpa using h1
            subst this; simp at h2; omega
    have hk2 : k = f.params.length := by
      simp only [decide_eq_false_iff_not] at h; omega
    subst hk2
    rw [List.take_length] at hsv
    refine Cd.exit (id := 2) ?_
    refine ⟨⟨rfl, rfl, trivial⟩, setI (fun _ _ => true) 0 s, ⟨fun v hv => ?_, fun b v hv hb => ?_⟩, by rw [hLF]⟩
    · unfold setI; rw [if_pos rfl]; exact hsv v
    · unfold setI at hb
      by_cases e : b = 0
      · rw [if_pos e] at hb
        rw [e]
        refine .zero fun p hp e2 => ?_
        rw [(hsv v).2 ⟨p, hp, e2⟩] at hb; cases hb
      · rw [if_neg e] at hb; cases hb
  rintro σ' _ ⟨hs', I0, hV0, rfl⟩
  refine Cd.has hs' ?_
  clear hs'
  refine Cd.mid (fun σ' L' => Has σ' [(1, .pointer (some ⟨g1, 0, none⟩)), (3, .slice (some ⟨gi, 0, none⟩) n n)] ∧ ∃ I, (∀ b v, v < 201 → (I b v = false ↔ Bare f v b)) ∧ [blk gi (.cells (inA n I) 124), LF] = L') ?_ ?_
  · refine Cd.seq ?_
    refine Cd.region ?_
    refine Ol.p asb ?_
    refine Ol.nil ?_
    refine Cd.block ?_   -- 4
    refine Cd.loop (fun m σ L => ∃ (I : IV) (mv : Bool), m = muI n I + (if mv = true then 1 else 0) ∧ Val f I ∧ (mv = false → ∀ (a : Nat) (x : RBlk), f.blocks[a]? = some x → ∀ to : Nat, (to : Int) ∈ toL x.term → Stab I (outV x.ins (I a)) to) ∧ Has σ [(1, .pointer (some ⟨g1, 0, none⟩)), (3, .slice (some ⟨gi, 0, none⟩) n n), (7, .bool mv)] ∧ [blk gi (.cells (inA n I) 124), LF] = L) (n := muI n I0 + 1) ⟨I0, true, rfl, hV0, (fun h => by cases h), ⟨rfl, rfl, rfl, trivial⟩, rfl⟩ ?_
    rintro _ σ L ⟨I, mv, rfl, hV, hst, hs, rfl⟩
    refine Cd.has hs ?_
    refine Cd.seq ?_
    refine Cd.seq ?_
    refine Cd.region ?_
    refine Ol.p mvb ?_
    refine Ol.nil ?_
    refine Cd.cond rfl (fun h => ?_) (fun h => ?_)   -- $49
    · subst h
      refine Cd.skip ?_
      refine Cd.block ?_   -- 5
      refine Cd.seq ?_
      refine Cd.region ?_
      refine Ol.p asb ?_
      refine Ol.nil ?_
      refine Cd.seq ?_
      rw [hLF]
      refine Cd.region ?_
      refine Ol.p (fdl fd_api_Func_1) ?_
      refine Ol.p (ld one_L_api_Block (Rd.blk (i := 1) rfl rfl)) ?_
      refine Ol.p (lens sl_L_api_Block) ?_
      refine Ol.p mvi ?_
      refine Ol.nil ?_
      refine Cd.block ?_   -- 6
      refine Cd.loop (fun m σ L => ∃ (k : Nat) (J : IV) (mv : Bool), m = n - k ∧ k ≤ n ∧ Has σ [(1, .pointer (some ⟨g1, 0, none⟩)), (3, .slice (some ⟨gi, 0, none⟩) n n), (7, .bool mv), (51, .slice f.bA f.blocks.length f.bC), (52, .int .i64 n), (53, .int .i64 k)] ∧ [blk gi (.cells (inA n J) 124), LF] = L ∧ Val f J ∧ (mv = true → muI n J < muI n I) ∧
        (mv = false → J = I ∧ ∀ (a : Nat) (x : RBlk), a < k → f.blocks[a]? = some x → ∀ to : Nat, (to : Int) ∈ toL x.term → Stab I (outV x.ins (I a)) to)) (n := n) ⟨0, I, false, rfl, Nat.zero_le _, ⟨rfl, rfl, rfl, rfl, by rw [hn]; rfl, rfl, trivial⟩, by rw [hLF], hV, (fun h => by cases h), fun _ => ⟨rfl, fun a x ha => by omega⟩⟩ ?_
      clear hs
      rintro _ σ L ⟨k, J, mv, rfl, hk, hs, rfl, hVJ, hmt, hmf⟩
      refine Cd.has hs ?_
      refine Cd.seq ?_
      refine Cd.region ?_
      refine Ol.p lsi ?_
      refine Ol.nil ?_
      refine Cd.seq ?_
      refine Cd.cond rfl (fun h => ?_) (fun h => ?_)   -- $54
      · have hlt : k < n := by
          simp only [decide_eq_true_eq] at h; omega
        have hle : (k + 1) * 201 ≤ n * 201 := Nat.mul_le_mul_right _ hlt
        obtain ⟨b, hb⟩ : ∃ b, f.blocks[k]? = some b := ⟨_, List.getElem?_eq_getElem (by omega)⟩
        have hbm := List.mem_of_getElem? hb
        have hba := hf.blk hfit hbm
        have hbl := hba.len
        refine Cd.skip ?_
        refine Cd.seq ?_
        refine Cd.block ?_   -- 7
        refine Cd.seq ?_
        refine Cd.region ?_
        refine Ol.p mvi ?_
        refine Ol.p (ixn (ix := k) sl_L_api_Block (Som.slc hf.blocks (by omega))) ?_
        refine Ol.p (lds (es := b.cells) ag_api_Block hf.blocks b.len (fun j u hu => blk_cell hb hu)) ?_
        refine Ol.x (alc zr_api_Block) ?_
        rintro _ _ ⟨g9, rfl, rfl⟩
        refine Ol.p asi ?_
        refine Ol.s (stw sz_api_Block rfl b.one (i := 0) rfl rfl) ?_
        refine Ol.nil ?_
        refine Cd.seq ?_
        refine Cd.region ?_
        refine Ol.p mvs ?_
        refine Ol.p mvi ?_
        refine Ol.p (ixi (ix := k) sl_L_ir_set) ?_
        refine Ol.p (ldp (k := k * 201) (vs := encV (J k)) ag_ir_set (i := 1) rfl (encV_size _) (inA_load hlt)) ?_
        refine Ol.x (alc zr_ir_set) ?_
        rintro _ _ ⟨g10, rfl, rfl⟩
        refine Ol.s (stw sz_ir_set (encV_size _) (encV_one _) (i := 0) rfl rfl) ?_
        refine Ol.nil ?_
        refine Cd.mid (fun σ' L' => Has σ' [(1, .pointer (some ⟨g1, 0, none⟩)), (3, .slice (some ⟨gi, 0, none⟩) n n), (7, .bool mv), (9, .pointer (some ⟨g9, 0, none⟩)), (10, .pointer (some ⟨g10, 0, none⟩)), (51, .slice f.bA f.blocks.length f.bC), (52, .int .i64 n), (53, .int .i64 k)] ∧ [blk g10 (.cells (encV (outV b.ins (J k))) 124), blk g9 (.cells b.cells.toArray 66), blk gi (.cells (inA n J) 124), LF] = L') ?_ ?_
        · refine Cd.seq ?_
          refine Cd.region ?_
          refine Ol.p (fdl fd_api_Block_0) ?_
          refine Ol.p (ld one_L_api_Ins (Rd.blk (i := 1) rfl rfl)) ?_
          refine Ol.p (lens sl_L_api_Ins) ?_
          refine Ol.p mvi ?_
          refine Ol.nil ?_
          refine Cd.block ?_   -- 8
          refine Cd.loop (fun m σ L => ∃ j, m = b.ins.length - j ∧ j ≤ b.ins.length ∧ Has σ [(1, .pointer (some ⟨g1, 0, none⟩)), (3, .slice (some ⟨gi, 0, none⟩) n n), (7, .bool mv), (9, .pointer (some ⟨g9, 0, none⟩)), (10, .pointer (some ⟨g10, 0, none⟩)), (51, .slice f.bA f.blocks.length f.bC), (52, .int .i64 n), (53, .int .i64 k), (63, .slice b.iA b.ins.length b.iC), (64, .int .i64 b.ins.length), (65, .int .i64 j)] ∧ [blk g10 (.cells (encV (outV (b.ins.take j) (J k))) 124), blk g9 (.cells b.cells.toArray 66), blk gi (.cells (inA n J) 124), LF] = L) (n := b.ins.length) ⟨0, rfl, Nat.zero_le _, ⟨rfl, rfl, rfl, rfl, rfl, rfl, rfl, rfl, rfl, rfl, rfl, trivial⟩, rfl⟩ ?_
          clear hs
          rintro _ σ L ⟨j, rfl, hj, hs, rfl⟩
          refine Cd.has hs ?_
          refine Cd.seq ?_
          refine Cd.region ?_
          refine Ol.p lsi ?_
          refine Ol.nil ?_
          refine Cd.seq ?_
          refine Cd.cond rfl (fun h => ?_) (fun h => ?_)   -- $66
          · have hjl : j < b.ins.length := by
              simp only [decide_eq_true_eq] at h; omega
            obtain ⟨i, hi⟩ : ∃ i, b.ins[j]? = some i := ⟨_, List.getElem?_eq_getElem hjl⟩
            have hia := hba.all i (List.mem_of_getElem? hi)
            have hdef := defI_range i
            obtain ⟨dn, hdn⟩ : ∃ dn : Nat, defI i = (dn : Int) := ⟨(defI i).toNat, by omega⟩
            have hdn2 : dn < 201 := by omega
            refine Cd.skip ?_
            refine Cd.seq ?_
            refine Cd.block ?_   -- 9
            refine Cd.seq ?_
            refine Cd.region ?_
            refine Ol.p (ixn sl_L_api_Ins (Som.slc hba.ins (by omega))) ?_
            refine Ol.p (lds (es := i.cells) ag_api_Ins hba.ins i.len (fun j u hu => ins_cell hi hu)) ?_
            refine Ol.x (alc zr_api_Ins) ?_
            rintro _ _ ⟨g12, rfl, rfl⟩
            refine Ol.s (stw sz_api_Ins rfl i.one (i := 0) rfl rfl) ?_
            refine Ol.nil ?_
            refine Cd.region ?_
            refine Ol.p (ldw ag_api_Ins (i := 0) rfl rfl) ?_
            refine Ol.s (cl en_ir_Defines (fun M w' hh => ir_Defines_ct (hia.now hh))) ?_
            refine Ol.p (ixl1 (ix := dn) ar_ir_set (hy := congrArg (Value.int .i64) hdn)) ?_
            refine Ol.s (sto (k := dn) (.inr sz_bool) rfl rfl (i := 1) rfl (by rw [encV_size]; exact hdn2) rfl) ?_
            refine Ol.keep (.sub (.cons _ (List.Sublist.refl _))) ?_
            refine Ol.nil ?_
            refine Cd.region ?_
            refine Ol.p addi ?_
            refine Ol.p mvi ?_
            refine Ol.nil ?_
            refine ⟨b.ins.length - (j + 1), by omega, j + 1, rfl, by omega, ⟨rfl, rfl, rfl, rfl, rfl, rfl, rfl, rfl, rfl, rfl, rfl, trivial⟩, ?_⟩
            rw [outV_snoc hi, hdn, Int.toNat_natCast]
            exact congrArg (fun cs => [blk g10 (.cells cs 124), blk g9 (.cells b.cells.toArray 66), blk gi (.cells (inA n J) 124), LF]) encV_set.symm
          have hj2 : j = b.ins.length := by
            simp only [decide_eq_false_iff_not] at h; omega
          subst hj2
          rw [List.take_length]
          refine Cd.exit (id := 8) ?_
          exact ⟨⟨rfl, rfl, rfl, rfl, rfl, rfl, rfl, rfl, trivial⟩, rfl⟩
        rintro σ' _ ⟨hs', rfl⟩
        refine Cd.has hs' ?_
        clear hs'
        obtain ⟨O, hO⟩ : ∃ O, O = outV b.ins (J k) := ⟨_, rfl⟩
        have hOut := hVJ.out (a := k) (x := b)
        rw [← hO] at hOut ⊢
        refine Cd.seq ?_
        refine Cd.region ?_
        refine Ol.p (fdl fd_api_Block_1) ?_
        refine Ol.p (ldp (k := 0 + 1) (vs := b.term.cells.toArray) ag_api_Term (i := 1) rfl rfl (fun j u hu => by rw [Nat.zero_add, Nat.add_comm]; simpa [RBlk.cells] using hu)) ?_
        refine Ol.x (sp_call en_ir_To (fun M w' hh => ir_To_ct (t := b.term))) ?_
        rintro _ _ ⟨_, rfl, A75, c75, rfl, rfl⟩
        refine Ol.p (lens sl_L_int) ?_
        refine Ol.p mvi ?_
        refine Ol.nil ?_
        have htb := hto k b hb
        obtain ⟨to, hto2⟩ : ∃ to, to = toL b.term := ⟨_, rfl⟩
        have htoL := toL_len b.term
        rw [← hto2] at htoL htb ⊢
        refine Cd.block ?_   -- 10
        refine Cd.loop (fun m σ L => ∃ (j : Nat) (K : IV) (mv2 : Bool), m = to.length - j ∧ j ≤ to.length ∧ Has σ [(1, .pointer (some ⟨g1, 0, none⟩)), (3, .slice (some ⟨gi, 0, none⟩) n n), (7, .bool mv2), (10, .pointer (some ⟨g10, 0, none⟩)), (51, .slice f.bA f.blocks.length f.bC), (52, .int .i64 n), (53, .int .i64 k), (75, .slice A75 to.length c75), (76, .int .i64 to.length), (77, .int .i64 j)] ∧
          [row (.slice A75 to.length c75) 3 1 to.length (ints to), blk g10 (.cells (encV O) 124), blk g9 (.cells b.cells.toArray 66), blk gi (.cells (inA n K) 124), LF] = L ∧ Val f K ∧ (mv2 = true → muI n K < muI n I) ∧ (mv2 = false → mv = false ∧ K = J ∧ ∀ m ∈ to.take j, Stab J O m.toNat)) (n := to.length) ⟨0, J, mv, rfl, Nat.zero_le _, ⟨rfl, rfl, rfl, rfl, rfl, rfl, rfl, rfl, rfl, rfl, trivial⟩, rfl, hVJ, hmt, fun h => ⟨h, rfl, by simp⟩⟩ ?_
        clear hs
        rintro _ σ L ⟨j, K, mv2, rfl, hj, hs, rfl, hVK, hkt, hkf⟩
        refine Cd.has hs ?_
        refine Cd.seq ?_
        refine Cd.region ?_
        refine Ol.p lsi ?_
        refine Ol.nil ?_
        refine Cd.seq ?_
        refine Cd.cond rfl (fun h => ?_) (fun h => ?_)   -- $78
        · have hjl : j < to.length := by
            simp only [decide_eq_true_eq] at h; omega
          obtain ⟨m, hm⟩ : ∃ m, to[j]? = some m := ⟨_, List.getElem?_eq_getElem hjl⟩
          have hmm := List.mem_of_getElem? hm
          have hmr := htb m hmm
          obtain ⟨q, rfl⟩ : ∃ q : Nat, m = (q : Int) := ⟨m.toNat, by omega⟩
          have hqn : q < n := by omega
          have hqle : (q + 1) * 201 ≤ n * 201 := Nat.mul_le_mul_right _ hqn
          refine Cd.skip ?_
          refine Cd.mid (fun σ' L' => ∃ (K : IV) (mv2 : Bool), Has σ' [(1, .pointer (some ⟨g1, 0, none⟩)), (3, .slice (some ⟨gi, 0, none⟩) n n), (7, .bool mv2), (10, .pointer (some ⟨g10, 0, none⟩)), (51, .slice f.bA f.blocks.length f.bC), (52, .int .i64 n), (53, .int .i64 k), (75, .slice A75 to.length c75), (76, .int .i64 to.length), (77, .int .i64 j)] ∧
            [row (.slice A75 to.length c75) 3 1 to.length (ints to), blk g10 (.cells (encV O) 124), blk g9 (.cells b.cells.toArray 66), blk gi (.cells (inA n K) 124), LF] = L' ∧ Val f K ∧ (mv2 = true → muI n K < muI n I) ∧ (mv2 = false → mv = false ∧ K = J ∧ ∀ m ∈ to.take (j + 1), Stab J O m.toNat)) ?_ ?_
          · refine Cd.block ?_   -- 11
            refine Cd.seq ?_
            refine Cd.region ?_
            refine Ol.p (ixn1 (ix := j) sl_L_int (Som.row (i := 0) rfl (by omega))) ?_
            refine Ol.p (ld one_int (Rd.row (i := 0) rfl (ints_at hm))) ?_
            refine Ol.p asi ?_
            refine Ol.nil ?_
            refine Cd.seq ?_
            obtain ⟨nx, hnx⟩ : ∃ nx : VS, nx = fun v => K q v && O v := ⟨_, rfl⟩
            refine Cd.draw mixed 7 (fun opNo => match opNo with | 5 => some (Is (.agg (encV nx))) | 6 => some (NewPv (.cells (Array.replicate 201 (.bool false)) 124)) | _ => none) (fun _ => []) (by kernel_rfl) (by intro q V h; split at h <;> cases h; exact ⟨_, [], rfl, rfl⟩; exact ⟨_, _, 0, rfl, rfl⟩) (fun u hu => ?_)
            refine Wk.p mvs ?_
            refine Wk.p mvi ?_
            refine Wk.p (ixi (ix := q) sl_L_ir_set) ?_
            refine Wk.p (ldp (k := q * 201) (vs := encV (K q)) ag_ir_set (i := 3) rfl (encV_size _) (inA_load hqn)) ?_
            refine Wk.p (ldw ag_ir_set (i := 1) rfl (encV_size _)) ?_
            refine Wk.x (V := Is (.agg (encV nx))) hu (by rw [hnx]; exact sp_call en_ir_set_meet (fun M w' hh => ir_set_meet_ct)) ?_
            rintro _ _ hu5 ⟨rfl, rfl⟩
            refine Wk.x (V := NewPv (.cells (Array.replicate 201 (.bool false)) 124)) hu (NewP.adds (alc zr_ir_set)) ?_
            rintro _ _ hu6 ⟨g15, rfl, rfl⟩
            refine Wk.nil ?_
            rw [needs_cons hu6, needs_cons hu5, needs_none]
            refine Ol.s (stw sz_ir_set (encV_size _) (encV_one _) (i := 0) rfl rfl) ?_
            refine Ol.nil ?_
            refine Cd.seq ?_
            refine Cd.draw mixed 6 (fun _ => none) (fun _ => []) (by kernel_rfl) (fun _ _ h => by cases h) (fun u hu => ?_)
            refine Wk.p (ldw ag_ir_set (i := 0) rfl (encV_size _)) ?_
            refine Wk.p mvs ?_
            refine Wk.p mvi ?_
            refine Wk.p (ixi (ix := q) sl_L_ir_set) ?_
            refine Wk.p (ldp (k := q * 201) (vs := encV (K q)) ag_ir_set (i := 4) rfl (encV_size _) (inA_load hqn)) ?_
            refine Wk.p (nea cm_ir_set (encV_size _) (encV_size _) encV_tell (sameV_iff (s := nx) (t := K q))) ?_
            refine Wk.nil ?_
            refine Ol.nil ?_
            have hle2 : ∀ v, v < 201 → nx v = true → K q v = true := fun v _ h => by
              rw [hnx] at h
              exact (Bool.and_eq_true_iff.1 h).1
            refine Cd.cond rfl (fun h2 => ?_) (fun h2 => ?_)   -- $92
            · have hns : sameV nx (K q) = false := by simpa using h2
              have hmu : muI n (setI K q nx) < muI n K := by
                refine muI_set hqn ?_
                unfold sameV at hns
                rw [List.all_eq_false] at hns
                obtain ⟨v, hv, h3⟩ := hns
                have hv : v < 201 := by simpa using hv
                have h3 : nx v ≠ K q v := by simpa using h3
                have h4 := hle2 v hv
                cases h5 : nx v with
                | true => rw [h5] at h3 h4; exact absurd (h4 rfl).symm h3
                | false =>
                  cases h6 : K q v with
                  | false => rw [h5, h6] at h3; exact absurd rfl h3
                  | true => exact cntB_lt hle2 hv h5 h6
              refine Cd.region ?_
              refine Ol.p mvs ?_
              refine Ol.p mvi ?_
              refine Ol.p (ldw ag_ir_set (i := 0) rfl (encV_size _)) ?_
              refine Ol.p (ixi (ix := q) sl_L_ir_set) ?_
              refine Ol.s (sta (k := q * 201) sz_ir_set (encV_size _) (encV_one _) (i := 4) rfl (by rw [inA_size]; omega)) ?_
              refine Ol.p asb ?_
              refine Ol.keep (.sub (.cons _ (List.Sublist.refl _))) ?_
              refine Ol.nil ?_
              refine ⟨setI K q nx, true, ⟨rfl, rfl, rfl, rfl, rfl, rfl, rfl, rfl, rfl, rfl, trivial⟩, congrArg (fun cs => [row (.slice A75 to.length c75) 3 1 to.length (ints to), blk g10 (.cells (encV O) 124), blk g9 (.cells b.cells.toArray 66), blk gi (.cells cs 124), LF]) (inA_sta hqn).symm, ?_, fun _ => ?_, fun h => by cases h⟩
              · rw [hnx]
                exact hVK.turn hb (by rw [← hto2]; exact hmm) (by omega) hOut
              · cases hmv : mv2 with
                | true => have := hkt hmv; omega
                | false =>
                  obtain ⟨h7, h8, _⟩ := hkf hmv
                  have h9 := (hmf h7).1
                  rw [h8, h9] at hmu
                  rw [h8, h9]; exact hmu
            have hss : sameV nx (K q) = true := by simpa using h2
            refine Cd.keep (.sub (.cons _ (List.Sublist.refl _))) ?_
            refine Cd.skip ?_
            refine ⟨K, mv2, ⟨rfl, rfl, rfl, rfl, rfl, rfl, rfl, rfl, rfl, rfl, trivial⟩, rfl, hVK, hkt, fun h => ?_⟩
            obtain ⟨h7, h8, h9⟩ := hkf h
            refine ⟨h7, h8, fun m hm2 => ?_⟩
            rw [take_snoc_ hm] at hm2
            rcases List.mem_append.1 hm2 with h3 | h3
            · exact h9 m h3
            · have e : m = (q : Int) := by simpa using h3
              subst e
              rw [Int.toNat_natCast]
              intro v hv hJ
              have h10 := sameV_at hss hv
              rw [hnx] at h10
              rw [h8] at h10
              have h10 : (J q v && O v) = J q v := h10
              rw [hJ, Bool.true_and] at h10
              exact h10
          rintro σ' _ ⟨K, mv2, hs', rfl, hVK, hkt, hkf⟩
          refine Cd.has hs' ?_
          refine Cd.region ?_
          refine Ol.p addi ?_
          refine Ol.p mvi ?_
          refine Ol.nil ?_
          exact ⟨to.length - (j + 1), by omega, j + 1, K, mv2, rfl, by omega, ⟨rfl, rfl, rfl, rfl, rfl, rfl, rfl, rfl, rfl, rfl, trivial⟩, rfl, hVK, hkt, hkf⟩
        have hj2 : j = to.length := by
          simp only [decide_eq_false_iff_not] at h; omega
        subst hj2
        rw [List.take_length] at hkf
        refine Cd.exit (id := 10) ?_
        refine Cd.keep (.sub (.cons _ (.cons _ (.cons _ (List.Sublist.refl _))))) ?_
        refine Cd.region ?_
        refine Ol.p addi ?_
        refine Ol.p mvi ?_
        refine Ol.nil ?_
        refine ⟨n - (k + 1), by omega, k + 1, K, mv2, rfl, by omega, ⟨rfl, rfl, rfl, rfl, rfl, rfl, trivial⟩, rfl, hVK, hkt, fun h => ?_⟩
        obtain ⟨h7, h8, h9⟩ := hkf h
        obtain ⟨h10, h11⟩ := hmf h7
        refine ⟨h8.trans h10, fun a x ha hx t ht => ?_⟩
        by_cases e : a = k
        · subst e
          rw [hb] at hx
          cases hx
          have := h9 (t : Int) (by rw [hto2]; exact ht)
          rw [hO, h10, Int.toNat_natCast] at this
          exact this
        · exact h11 a x (by omega) hx t ht
      have hk2 : k = n := by
        simp only [decide_eq_false_iff_not] at h; omega
      subst hk2
      refine Cd.exit (id := 6) ?_
      refine ⟨muI k J + (if mv = true then 1 else 0), ?_, J, mv, rfl, hVJ, fun h a x hx t ht => ?_, ⟨rfl, rfl, rfl, trivial⟩, by rw [hLF]⟩
      · cases hmv : mv with
        | true => have := hmt hmv; simp only [if_true]; omega
        | false => have := (hmf hmv).1; rw [this]; simp
      · obtain ⟨h10, h11⟩ := hmf h
        rw [h10]
        exact h11 a x (by rw [hn]; exact (List.getElem?_eq_some_iff.1 hx).1) hx t ht
    refine Cd.exit (id := 4) ?_
    exact ⟨⟨rfl, rfl, trivial⟩, I, fun b v hv => hV.fin (hst h) hv, rfl⟩
  rintro σ' _ ⟨hs', I, hI, rfl⟩
  refine Cd.has hs' ?_
  clear hs'
  have hval := valued_of hI
  refine Cd.seq ?_
  refine Cd.seq ?_
  rw [hLF]
  refine Cd.region ?_
  refine Ol.p (fdl fd_api_Func_1) ?_
  refine Ol.p (ld one_L_api_Block (Rd.blk (i := 1) rfl rfl)) ?_
  refine Ol.p (lens sl_L_api_Block) ?_
  refine Ol.p mvi ?_
  refine Ol.nil ?_
  refine Cd.block ?_   -- 12
  refine Cd.loop (fun m σ L => ∃ k, m = n - k ∧ k ≤ n ∧ Has σ [(3, .slice (some ⟨gi, 0, none⟩) n n), (100, .slice f.bA f.blocks.length f.bC), (101, .int .i64 n), (102, .int .i64 k)] ∧ [blk gi (.cells (inA n I) 124), LF] = L ∧ ∀ (b : Nat) (x : RBlk), b < k → f.blocks[b]? = some x → okPast x.ins x.term (I b) = true) (n := n) ⟨0, rfl, Nat.zero_le _, ⟨rfl, rfl, by rw [hn]; rfl, rfl, trivial⟩, by rw [hLF], fun b x hb => by omega⟩ ?_
  rintro _ σ L ⟨k, rfl, hk, hs, rfl, hall⟩
  refine Cd.has hs ?_
  refine Cd.seq ?_
  refine Cd.region ?_
  refine Ol.p lsi ?_
  refine Ol.nil ?_
  refine Cd.seq ?_
  refine Cd.cond rfl (fun h => ?_) (fun h => ?_)   -- $103
  · have hlt : k < n := by
      simp only [decide_eq_true_eq] at h; omega
    obtain ⟨b, hb⟩ : ∃ b, f.blocks[k]? = some b := ⟨_, List.getElem?_eq_getElem (by omega)⟩
    have hba := hf.blk hfit (List.mem_of_getElem? hb)
    refine Cd.skip ?_
    refine Cd.seq ?_
    refine Cd.block ?_   -- 13
    refine Cd.seq ?_
    refine Cd.region ?_
    refine Ol.p mvi ?_
    refine Ol.p (ixn (ix := k) sl_L_api_Block (Som.slc hf.blocks (by omega))) ?_
    refine Ol.p (lds (es := b.cells) ag_api_Block hf.blocks b.len (fun j u hu => blk_cell hb hu)) ?_
    refine Ol.x (alc zr_api_Block) ?_
    rintro _ _ ⟨g17, rfl, rfl⟩
    refine Ol.p asi ?_
    refine Ol.s (stw sz_api_Block rfl b.one (i := 0) rfl rfl) ?_
    refine Ol.nil ?_
    refine Cd.seq ?_
    refine Cd.drawT (L0 := [blk g17 (.cells b.cells.toArray 66), blk gi (.cells (inA n I) 124), LF]) mixed 11 (fun opNo => match opNo with | 5 => some (fun v R => ∃ s', v = .tuple #[.agg (encV s'), .bool (okPast b.ins b.term (I k))] ∧ R = []) | 9 => some (NewPv (.cells (Array.replicate 201 (.bool false)) 124)) | 10 => some (fun v R => v = undef ∧ ∃ g cs, R = [blk g (.cells cs 124)]) | _ => none) (fun opNo => match opNo with | 10 => [9] | _ => []) (fun opNo => match opNo with | 10 => some 9 | _ => none) [] (fun _ => []) (by kernel_rfl) (.refl _) (by intro c hc; cases hc) (by intro q V h; split at h <;> cases h; exact ⟨_, _, fun _ => false, rfl, rfl⟩; exact ⟨_, _, 0, rfl, rfl⟩; exact ⟨_, _, rfl, 0, #[], rfl⟩) (fun u hu hu0 => ?_)
    refine WkT.p mvs ?_
    refine WkT.p mvi ?_
    refine WkT.p (ixi (ix := k) sl_L_ir_set) ?_
    refine WkT.p (ldp (k := k * 201) (vs := encV (I k)) ag_ir_set (i := 1) rfl (encV_size _) (inA_load hlt)) ?_
    refine WkT.p (ldw ag_api_Block (i := 0) rfl rfl) ?_
    refine WkT.xn (V := fun v R => ∃ s', v = .tuple #[.agg (encV s'), .bool (okPast b.ins b.term (I k))] ∧ R = []) (l := []) (l2 := []) hu rfl rfl rfl (by rw [needs_none]; exact (sp_call en_ir_set_past (fun M w' hh => ir_set_past_ct (s := I k) (hba.now hh)))) ?_
    rintro _ _ hu5 ⟨s5, rfl, rfl⟩
    refine WkT.p mvt ?_
    refine WkT.p extv ?_
    refine WkT.p extv ?_
    refine WkT.xn (V := NewPv (.cells (Array.replicate 201 (.bool false)) 124)) (l := []) (l2 := []) hu rfl rfl rfl (by rw [needs_none]; exact (NewP.adds (alc zr_ir_set))) ?_
    rintro _ _ hu9 ⟨g18, rfl, rfl⟩
    refine WkT.xn (V := fun v R => v = undef ∧ ∃ g cs, R = [blk g (.cells cs 124)]) (l := [9]) (l2 := []) hu rfl rfl rfl (by rw [needs_cons hu9, needs_none]; exact (trn_any (stw sz_ir_set (encV_size _) (encV_one _) (i := 0) rfl rfl))) ?_
    rintro _ _ hu10 ⟨rfl, g18b, cs18, rfl⟩
    refine WkT.nil ?_
    change Ol _ _ _ _ _ (needs u [10, 5] _)
    rw [needs_cons hu10, needs_cons hu5, needs_none]
    refine Ol.p asb ?_
    refine Ol.nil ?_
    refine Cd.seq ?_
    refine Cd.region ?_
    refine Ol.p mvb ?_
    refine Ol.p noti ?_
    refine Ol.nil ?_
    refine Cd.cond rfl (fun h2 => ?_) (fun h2 => ?_)   -- $117
    · have h3 : okPast b.ins b.term (I k) = false := by simpa using h2
      refine Cd.seq ?_
      refine Cd.region ?_
      refine Ol.p asb ?_
      refine Ol.nil ?_
      refine Cd.ret ⟨.bool _, ret1 rfl rfl, [], .nil, ?_, rfl⟩
      have : valuedF f = false := by
        rw [hval, List.all_eq_false]
        refine ⟨k, by simp; omega, ?_⟩
        rw [hb]
        simp [h3]
      rw [this]
    have h3 : okPast b.ins b.term (I k) = true := by simpa using h2
    refine Cd.keep (.sub (.cons _ (.cons _ (List.Sublist.refl _)))) ?_
    refine Cd.skip ?_
    refine Cd.region ?_
    refine Ol.p addi ?_
    refine Ol.p mvi ?_
    refine Ol.nil ?_
    refine ⟨n - (k + 1), by omega, k + 1, rfl, by omega, ⟨rfl, rfl, rfl, rfl, trivial⟩, rfl, fun c x hc hx => ?_⟩
    by_cases e : c = k
    · subst e
      rw [hb] at hx; cases hx
      exact h3
    · exact hall c x (by omega) hx
  have hk2 : k = n := by
    simp only [decide_eq_false_iff_not] at h; omega
  subst hk2
  refine Cd.exit (id := 12) ?_
  refine Cd.seq ?_
  refine Cd.region ?_
  refine Ol.p asb ?_
  refine Ol.nil ?_
  refine Cd.ret ⟨.bool _, ret1 rfl rfl, [], .nil, ?_, rfl⟩
  have : valuedF f = true := by
    rw [hval, List.all_eq_true]
    intro b hb
    have hb : b < f.blocks.length := by simpa using hb
    have h3 := hall b _ (by omega) (List.getElem?_eq_getElem hb)
    rw [List.getElem?_eq_getElem hb]
    exact h3
  rw [this]
end
end Go.Proofs.YtbcnejobnmljlaaDoor

/- The package ir: whether a function is right, walked. -/
namespace Go.Proofs.YtbcnejobnmljlaaDoor
set_option linter.unusedVariables false
open Go Go.RowKit
set_option maxRecDepth 100000

noncomputable def rightF (f : RFun) : Int := bif longF f then 3 else bif !wholeF f then 2 else bif !okEs f.terms || decide ((orderF f.terms).length < f.blocks.length) then 9 else bif !valuedF f then 8 else 0
theorem rightF_iff {f : RFun} : rightF f = 0 ↔ longF f = false ∧ wholeF f = true ∧ okEs f.terms = true ∧ f.blocks.length ≤ (orderF f.terms).length ∧ valuedF f = true := by
  unfold rightF
  cases longF f <;> cases wholeF f <;> cases okEs f.terms <;> cases valuedF f <;> cases h : decide ((orderF f.terms).length < f.blocks.length) <;> simp_all
theorem long_parts {f : RFun} (h : longF f = false) : 0 < f.blocks.length ∧ f.blocks.length ≤ 200 ∧ f.params.length ≤ 8 ∧ ∀ b ∈ f.blocks, b.ins.length ≤ 64 := by
  unfold longF at h
  simp only [Bool.or_eq_false_iff, decide_eq_false_iff_not, List.any_eq_false] at h
  exact ⟨by omega, by omega, by omega, fun b hb => by have := h.2 b hb; simp at this; omega⟩
section
set_option maxHeartbeats 1000000 in
theorem ir_Right_ct {w : World} {f : RFun} (hf : FunAt w w.heap.size f) (hfit : Fit f) : Ct Tryd.prog 39 #[f.val] w (Is (.int .i64 (rightF f))) := by
  refine Ct.mk Tryd.func39 rfl rfl ?_
  refine Cd.seq ?_
  refine Cd.region ?_
  refine Ol.x bxg ?_
  rintro _ _ ⟨g1, rfl, rfl⟩
  refine Ol.p asi ?_
  refine Ol.nil ?_
  refine Cd.seq ?_
  refine Cd.seq ?_
  refine Cd.region ?_
  refine Ol.p (ldw ag_api_Func (i := 0) rfl rfl) ?_
  refine Ol.s (cl en_ir_long (fun M w' hh => ir_long_ct (hf.now hh) hfit)) ?_
  refine Ol.nil ?_
  refine Cd.cond rfl (fun hl => ?_) (fun hl => ?_)   -- $6
  · refine Cd.seq ?_
    refine Cd.region ?_
    refine Ol.p asi ?_
    refine Ol.nil ?_
    exact Cd.ret ⟨.int .i64 _, ret1 rfl rfl, [], .nil, by unfold rightF; rw [hl]; rfl, rfl⟩
  obtain ⟨h0, h200, _, _⟩ := long_parts hl
  refine Cd.skip ?_
  refine Cd.seq ?_
  refine Cd.seq ?_
  refine Cd.region ?_
  refine Ol.p (ldw ag_api_Func (i := 0) rfl rfl) ?_
  refine Ol.s (cl en_ir_whole (fun M w' hh => ir_whole_ct (hf.now hh) hfit)) ?_
  refine Ol.p noti ?_
  refine Ol.nil ?_
  refine Cd.cond rfl (fun hw => ?_) (fun hw => ?_)   -- $9
  · refine Cd.seq ?_
    refine Cd.region ?_
    refine Ol.p asi ?_
    refine Ol.nil ?_
    exact Cd.ret ⟨.int .i64 _, ret1 rfl rfl, [], .nil, by unfold rightF; rw [hl, hw]; rfl, rfl⟩
  have hwt : wholeF f = true := by simpa using hw
  have e1 : rightF f = bif !okEs f.terms || decide ((orderF f.terms).length < f.blocks.length) then 9 else bif !valuedF f then 8 else 0 := by unfold rightF; rw [hl, hw]; rfl
  refine Cd.skip ?_
  refine Cd.seq ?_
  cases hok : okEs f.terms with
  | false =>
    refine Cd.seq ?_
    refine Cd.region ?_
    refine Ol.p (ldw ag_api_Func (i := 0) rfl rfl) ?_
    refine Ol.s (cl en_ir_reach (fun M w' hh => ir_reach_ct (hf.now hh) hfit h0 h200)) ?_
    refine Ol.p (mv (by rw [hok])) ?_
    refine Ol.p extv ?_
    refine Ol.p extv ?_
    refine Ol.p asi ?_
    refine Ol.p asb ?_
    refine Ol.nil ?_
    refine Cd.seq ?_
    refine Cd.region ?_
    refine Ol.p mvb ?_
    refine Ol.p noti ?_
    refine Ol.p mvb ?_
    refine Ol.gn rfl ?_
    refine Ol.gn rfl ?_
    refine Ol.gn rfl ?_
    refine Ol.gn rfl ?_
    refine Ol.gn rfl ?_
    refine Ol.p (pkTb rfl) ?_
    refine Ol.nil ?_
    refine Cd.cond rfl (fun h => ?_) (fun h => by cases h)   -- $23
    refine Cd.seq ?_
    refine Cd.region ?_
    refine Ol.p asi ?_
    refine Ol.nil ?_
    exact Cd.ret ⟨.int .i64 _, ret1 rfl rfl, [], .nil, by rw [e1, hok]; rfl, rfl⟩
  | true =>
    have e2 : decide (((orderF f.terms).length : Int) < (f.blocks.length : Int)) = decide ((orderF f.terms).length < f.blocks.length) := by rw [decide_eq_decide]; omega
    refine Cd.seq ?_
    refine Cd.region ?_
    refine Ol.p (ldw ag_api_Func (i := 0) rfl rfl) ?_
    refine Ol.s (cl en_ir_reach (fun M w' hh => ir_reach_ct (hf.now hh) hfit h0 h200)) ?_
    refine Ol.p (mv (by rw [hok])) ?_
    refine Ol.p extv ?_
    refine Ol.p extv ?_
    refine Ol.p asi ?_
    refine Ol.p asb ?_
    refine Ol.nil ?_
    refine Cd.seq ?_
    refine Cd.region ?_
    refine Ol.p mvb ?_
    refine Ol.p noti ?_
    refine Ol.p mvb ?_
    refine Ol.gp rfl mvi ?_
    refine Ol.gp rfl (fdl fd_api_Func_1) ?_
    refine Ol.gp rfl (ld one_L_api_Block (Rd.blk (i := 0) rfl rfl)) ?_
    refine Ol.gp rfl (lens sl_L_api_Block) ?_
    refine Ol.gp rfl lsi ?_
    refine Ol.p (pkFb rfl) ?_
    refine Ol.nil ?_
    rw [e2]
    refine Cd.cond rfl (fun h => ?_) (fun h => ?_)   -- $23
    · refine Cd.seq ?_
      refine Cd.region ?_
      refine Ol.p asi ?_
      refine Ol.nil ?_
      exact Cd.ret ⟨.int .i64 _, ret1 rfl rfl, [], .nil, by rw [e1, hok, h]; rfl, rfl⟩
    refine Cd.skip ?_
    refine Cd.seq ?_
    refine Cd.seq ?_
    refine Cd.region ?_
    refine Ol.p (ldw ag_api_Func (i := 0) rfl rfl) ?_
    refine Ol.s (cl en_ir_valued (fun M w' hh => ir_valued_ct (hf.now hh) hfit hl hwt hok)) ?_
    refine Ol.p noti ?_
    refine Ol.nil ?_
    refine Cd.cond rfl (fun h2 => ?_) (fun h2 => ?_)   -- $26
    · refine Cd.seq ?_
      refine Cd.region ?_
      refine Ol.p asi ?_
      refine Ol.nil ?_
      exact Cd.ret ⟨.int .i64 _, ret1 rfl rfl, [], .nil, by rw [e1, hok, h, h2]; rfl, rfl⟩
    refine Cd.skip ?_
    refine Cd.seq ?_
    refine Cd.region ?_
    refine Ol.p asi ?_
    refine Ol.nil ?_
    exact Cd.ret ⟨.int .i64 _, ret1 rfl rfl, [], .nil, by rw [e1, hok, h, h2]; rfl, rfl⟩
end
end Go.Proofs.YtbcnejobnmljlaaDoor

/- Plain laws of what is live. -/
namespace Go.Proofs.YtbcnejobnmljlaaDoor
set_option linter.unusedVariables false
open Go Go.RowKit
set_option maxRecDepth 10000

/-- What is live ahead of an instruction. -/
def aheadF (i : RIns) (s : Nat) : Nat := withL (lessL s [defI i]) (readsL i)
/-- What is live ahead of the k-th instruction, of what is behind all. -/
def ptAt (l : List RIns) (s : Nat) (k : Nat) : Nat := (l.drop k).foldr aheadF s
theorem ptAt_end (l : List RIns) (s : Nat) : ptAt l s l.length = s := by simp [ptAt]
theorem ptAt_at {l : List RIns} {s k : Nat} {i : RIns} (h : l[k]? = some i) : ptAt l s k = aheadF i (ptAt l s (k + 1)) := by
  unfold ptAt
  have hk := (List.getElem?_eq_some_iff.1 h).1
  rw [List.drop_eq_getElem_cons hk, (List.getElem?_eq_some_iff.1 h).2]; rfl
def endS (b : RBlk) (out : Nat) : Nat := withL out (needsL b.term)
theorem aheadF_sm {i : RIns} {s : Nat} (h : Sm s) : Sm (aheadF i s) := withL_sm (lessL_sm h)
theorem fold_sm {s : Nat} (h : Sm s) : ∀ l : List RIns, Sm (l.foldr aheadF s)
  | [] => h
  | i :: l => aheadF_sm (fold_sm h l)
theorem ptAt_sm {l : List RIns} {s k : Nat} (h : Sm s) : Sm (ptAt l s k) := fold_sm h _
theorem endS_sm {b : RBlk} {o : Nat} (h : Sm o) : Sm (endS b o) := withL_sm h
theorem bit_ahead {i : RIns} {s v : Nat} (hv : v < 1024) : (aheadF i s).testBit v = true ↔ (v : Int) ∈ readsL i ∨ (s.testBit v = true ∧ defI i ≠ (v : Int)) := by
  have hok : okN (v : Int) = true := by rw [okN_iff]; omega
  unfold aheadF
  rw [testBit_withL, testBit_lessL, hok, Bool.true_and, Bool.true_and, Bool.or_eq_true, Bool.and_eq_true]
  simp only [List.contains_eq_mem, decide_eq_true_eq, List.mem_singleton, Bool.not_eq_true', decide_eq_false_iff_not]
  constructor
  · rintro (⟨h1, h2⟩ | h1)
    · exact .inr ⟨h1, fun e => h2 e.symm⟩
    · exact .inl h1
  · rintro (h1 | ⟨h1, h2⟩)
    · exact .inr h1
    · exact .inl ⟨h1, fun e => h2 e.symm⟩
theorem bit_end {b : RBlk} {o v : Nat} (hv : v < 1024) : (endS b o).testBit v = true ↔ o.testBit v = true ∨ (v : Int) ∈ needsL b.term := by
  have hok : okN (v : Int) = true := by rw [okN_iff]; omega
  unfold endS
  rw [testBit_withL, hok, Bool.true_and, Bool.or_eq_true]
  simp
theorem bit_fold {b : RBlk} {o v : Nat} (hv : v < 1024) : ∀ l : List RIns, (l.foldr aheadF (endS b o)).testBit v = true ↔ exposed l b.term (v : Int) = true ∨ (o.testBit v = true ∧ ∀ i ∈ l, defI i ≠ (v : Int))
  | [] => by
    show (endS b o).testBit v = true ↔ _
    rw [bit_end hv]
    unfold exposed
    simp [or_comm]
  | i :: l => by
    show (aheadF i (l.foldr aheadF (endS b o))).testBit v = true ↔ _
    rw [bit_ahead hv, bit_fold hv l, show exposed (i :: l) b.term (v : Int) = ((readsL i).contains (v : Int) || (!decide (defI i = (v : Int)) && exposed l b.term (v : Int))) from rfl]
    simp only [Bool.or_eq_true, Bool.and_eq_true, List.contains_eq_mem, decide_eq_true_eq, Bool.not_eq_true', decide_eq_false_iff_not, List.mem_cons, forall_eq_or_imp]
    constructor
    · rintro (h | ⟨h | ⟨h, h2⟩, h3⟩)
      · exact .inl (.inl h)
      · exact .inl (.inr ⟨h3, h⟩)
      · exact .inr ⟨h, h3, h2⟩
    · rintro ((h | ⟨h, h2⟩) | ⟨h, h2, h3⟩)
      · exact .inl h
      · exact .inr ⟨.inl h2, h⟩
      · exact .inr ⟨.inr ⟨h, h3⟩, h2⟩
/-- What is live at a block's begin, of what is live behind it. -/
def pre0 (b : RBlk) (o : Nat) : Nat := ptAt b.ins (endS b o) 0
theorem bit_pre0 {b : RBlk} {o v : Nat} (hv : v < 1024) : (pre0 b o).testBit v = true ↔ exposed b.ins b.term (v : Int) = true ∨ (o.testBit v = true ∧ ∀ i ∈ b.ins, defI i ≠ (v : Int)) := by
  unfold pre0 ptAt
  rw [List.drop_zero]
  exact bit_fold hv _
theorem pre0_sm {b : RBlk} {o : Nat} (h : Sm o) : Sm (pre0 b o) := ptAt_sm (endS_sm h)
theorem pre0_mono {b : RBlk} {o o' : Nat} (h : Sub o o') (ho : Sm o) : Sub (pre0 b o) (pre0 b o') := fun v hv => by
  have hlt : v < 1024 := by
    rcases Nat.lt_or_ge v 1024 with h1 | h1
    · exact h1
    · rw [pre0_sm ho v h1] at hv; cases hv
  rw [bit_pre0 hlt] at hv ⊢
  exact hv.imp id fun ⟨h1, h2⟩ => ⟨h v h1, h2⟩
/-- A variable is live at a block's begin: it is read on some way from there, ahead of being defined. -/
inductive Lv (f : RFun) (v : Nat) : Nat → Prop
  | here {b : Nat} {x : RBlk} : f.blocks[b]? = some x → exposed x.ins x.term (v : Int) = true → Lv f v b
  | thru {b to : Nat} {x : RBlk} : f.blocks[b]? = some x → (∀ i ∈ x.ins, defI i ≠ (v : Int)) → (to : Int) ∈ toL x.term → Lv f v to → Lv f v b
/-- It is live behind a block. -/
def Lo (f : RFun) (v b : Nat) : Prop := ∃ x to, f.blocks[b]? = some x ∧ ((to : Nat) : Int) ∈ toL x.term ∧ Lv f v to
/-- While the sets grow: nothing is in them that isn't live. -/
structure Liv (f : RFun) (I O : Nat → Nat) : Prop where
  i : ∀ b v, (I b).testBit v = true → Lv f v b
  o : ∀ b v, (O b).testBit v = true → Lo f v b
  si : ∀ b, Sm (I b)
  so : ∀ b, Sm (O b)
  g : ∀ b x, f.blocks[b]? = some x → Sub (I b) (pre0 x (O b))
def setN (I : Nat → Nat) (b s : Nat) : Nat → Nat := fun x => if x = b then s else I x
theorem setN_same (I : Nat → Nat) (b s : Nat) : setN I b s b = s := by unfold setN; rw [if_pos rfl]
theorem setN_other {I : Nat → Nat} {b s x : Nat} (h : x ≠ b) : setN I b s x = I x := by unfold setN; rw [if_neg h]
theorem Liv.start (f : RFun) : Liv f (fun _ => 0) fun _ => 0 :=
  ⟨fun b v h => (by simp at h), fun b v h => (by simp at h), fun _ => zero_sm, fun _ => zero_sm, fun b x _ v h => (by simp at h)⟩
theorem Liv.edge {f : RFun} {I O : Nat → Nat} {b to : Nat} {x : RBlk} (h : Liv f I O) (hb : f.blocks[b]? = some x) (ht : (to : Int) ∈ toL x.term) : Liv f I (setN O b (O b ||| I to)) := by
  refine ⟨h.i, fun c v hc => ?_, h.si, fun c => ?_, fun c y hy => ?_⟩
  · by_cases e : c = b
    · subst e
      rw [setN_same, Nat.testBit_or, Bool.or_eq_true] at hc
      rcases hc with hc | hc
      · exact h.o c v hc
      · exact ⟨x, to, hb, ht, h.i to v hc⟩
    · rw [setN_other e] at hc; exact h.o c v hc
  · by_cases e : c = b
    · subst e; rw [setN_same]; exact or_sm (h.so c) (h.si to)
    · rw [setN_other e]; exact h.so c
  · by_cases e : c = b
    · subst e
      rw [setN_same]
      refine (h.g c y hy).trans (pre0_mono (fun v hv => ?_) (h.so c))
      rw [Nat.testBit_or, hv]; rfl
    · rw [setN_other e]; exact h.g c y hy
theorem Liv.begin {f : RFun} {I O : Nat → Nat} {b : Nat} {x : RBlk} (h : Liv f I O) (hb : f.blocks[b]? = some x) : Liv f (setN I b (pre0 x (O b))) O := by
  refine ⟨fun c v hc => ?_, h.o, fun c => ?_, h.so, fun c y hy => ?_⟩
  · by_cases e : c = b
    · subst e
      rw [setN_same] at hc
      have hlt : v < 1024 := by
        rcases Nat.lt_or_ge v 1024 with h1 | h1
        · exact h1
        · rw [pre0_sm (h.so c) v h1] at hc; cases hc
      rw [bit_pre0 hlt] at hc
      rcases hc with hc | ⟨hc, hd⟩
      · exact .here hb hc
      · obtain ⟨y, to, hy, ht, hl⟩ := h.o c v hc
        rw [hb] at hy
        cases hy
        exact .thru hb hd ht hl
    · rw [setN_other e] at hc; exact h.i c v hc
  · by_cases e : c = b
    · subst e; rw [setN_same]; exact pre0_sm (h.so c)
    · rw [setN_other e]; exact h.si c
  · by_cases e : c = b
    · subst e
      rw [hb] at hy
      cases hy
      rw [setN_same]; exact Sub.refl _
    · rw [setN_other e]; exact h.g c y hy
/-- Nothing moves any more. -/
theorem Liv.fin {f : RFun} {I O : Nat → Nat} (h : Liv f I O) (hs : ∀ b x, f.blocks[b]? = some x → I b = pre0 x (O b) ∧ ∀ to : Nat, (to : Int) ∈ toL x.term → Sub (I to) (O b)) :
    (∀ b v, (I b).testBit v = true ↔ Lv f v b) ∧ ∀ b v, (O b).testBit v = true ↔ Lo f v b := by
  have hI : ∀ b v, Lv f v b → (I b).testBit v = true := fun b v hl => by
    induction hl with
    | @here b x hb he =>
      have := exposed_range he
      rw [(hs b x hb).1, bit_pre0 (by omega)]
      exact .inl he
    | @thru b to x hb hd ht hl ih =>
      have hlt : v < 1024 := by
        rcases Nat.lt_or_ge v 1024 with h1 | h1
        · exact h1
        · rw [h.si to v h1] at ih; cases ih
      rw [(hs b x hb).1, bit_pre0 hlt]
      exact .inr ⟨(hs b x hb).2 to ht v ih, hd⟩
  refine ⟨fun b v => ⟨h.i b v, hI b v⟩, fun b v => ⟨h.o b v, ?_⟩⟩
  rintro ⟨x, to, hb, ht, hl⟩
  exact (hs b x hb).2 to ht v (hI to v hl)
/-- How much may still come. -/
def muN (n : Nat) (I : Nat → Nat) : Nat := ((List.range n).map fun b => 1024 - (listS (I b)).length).sum
theorem listS_le (s : Nat) : (listS s).length ≤ 1024 := by
  unfold listS upto
  exact Nat.le_trans (List.length_filter_le _ _) (by simp)
theorem muN_set {I : Nat → Nat} {b s : Nat} (hlt : (listS (I b)).length < (listS s).length) : ∀ {n : Nat}, b < n → muN n (setN I b s) < muN n I
  | 0, h => by omega
  | n + 1, h => by
    have hs : ∀ J : Nat → Nat, muN (n + 1) J = muN n J + (1024 - (listS (J n)).length) := fun J => by unfold muN; rw [List.range_succ, List.map_append, List.sum_append]; simp
    rw [hs, hs]
    have hle := listS_le s
    by_cases e : b = n
    · subst e
      have h3 : muN b (setN I b s) = muN b I := by
        unfold muN
        congr 1
        apply List.map_congr_left
        intro c hc
        have : c < b := by simpa using hc
        rw [setN_other (by omega)]
      rw [h3, setN_same]; omega
    · have h3 := muN_set (I := I) (s := s) hlt (n := n) (by omega)
      rw [setN_other (fun e2 => e e2.symm)]; omega
theorem Liv.moves {f : RFun} {I O : Nat → Nat} {b n : Nat} {x : RBlk} (h : Liv f I O) (hb : f.blocks[b]? = some x) (hn : b < n) (hne : I b ≠ pre0 x (O b)) : muN n (setN I b (pre0 x (O b))) < muN n I :=
  muN_set (listS_lt (h.g b x hb) (pre0_sm (h.so b)) hne) hn
/-- At the first block nothing is live but parameters, if all that is read has a value. -/
theorem live_entry {f : RFun} {v b : Nat} (h : Lv f v b) (hv : valuedF f = true) : ¬ Bare f v b := by
  induction h with
  | here hb he => 
    have := valuedF_iff.1 hv _ _ _ hb he
    rwa [Int.toNat_natCast] at this
  | @thru b to x hb hd ht _ ih =>
    intro hB
    refine ih (.step hB hb (fun i hi e => ?_) ht)
    have := defI_range i
    exact hd i hi (by omega)
theorem live_params {f : RFun} {v : Nat} (h : Lv f v 0) (hv : valuedF f = true) : ∃ p ∈ f.params, p.toNat = v := by
  refine Classical.byContradiction fun hn => live_entry h hv (.zero fun p hp e => hn ⟨p, hp, e⟩)
end Go.Proofs.YtbcnejobnmljlaaDoor

/- The package live, walked. -/
namespace Go.Proofs.YtbcnejobnmljlaaDoor
set_option linter.unusedVariables false
open Go Go.RowKit
set_option maxRecDepth 100000

section
theorem live_ahead_ct {w : World} {i : RIns} {s : Nat} (hi : InsAt w i) : Ct Tryd.prog 87 #[i.val, .agg (enc s)] w (Is (.agg (enc (aheadF i s)))) := by
  have hd := defI_range i
  have hr := readsL_len i
  refine Ct.mk Tryd.func87 rfl rfl ?_
  refine Cd.seq ?_
  refine Cd.region ?_
  refine Ol.x bxg ?_
  rintro _ _ ⟨g2, rfl, rfl⟩
  refine Ol.x bxg ?_
  rintro _ _ ⟨g3, rfl, rfl⟩
  refine Ol.x (alc zr_bits_Set) ?_
  rintro _ _ ⟨g4, rfl, rfl⟩
  refine Ol.nil ?_
  refine Cd.seq ?_
  refine Cd.draw mixed 8 (fun opNo => match opNo with | 2 => some (Is (.int .i64 (defI i))) | 3 => some (NewSv 3 1 1 1 [.int .i64 (defI i)]) | 4 => some (Is (.agg (enc (lessL s [defI i])))) | 6 => some (NewL 3 1 (readsL i).length (ints (readsL i))) | 7 => some (Is (.agg (enc (aheadF i s)))) | _ => none) (fun opNo => match opNo with | 4 => [3] | 7 => [6] | _ => []) (by kernel_rfl) (by intro q V h; split at h <;> cases h; exact ⟨_, [], rfl, rfl⟩; exact ⟨_, _, 0, rfl, rfl⟩; exact ⟨_, [], rfl, rfl⟩; exact ⟨_, _, none, 0, rfl, rfl⟩; exact ⟨_, [], rfl, rfl⟩) (fun u hu => ?_)
  refine Wk.p (ldw ag_bits_Set (i := 1) rfl (enc_size _)) ?_
  refine Wk.p (ldw ag_api_Ins (i := 2) rfl rfl) ?_
  refine Wk.x (V := Is (.int .i64 (defI i))) hu (sp_call en_ir_Defines (fun M w' hh => ir_Defines_ct (hi.now hh))) ?_
  rintro _ _ hu2 ⟨rfl, rfl⟩
  refine Wk.x (V := NewSv 3 1 1 1 [.int .i64 (defI i)]) hu (NewS.adds (bsv [.int .i64 (defI i)] sl_L_int zr_int (by simp [Value.cells]))) ?_
  rintro _ _ hu3 ⟨g8, rfl, rfl⟩
  refine Wk.xn (V := Is (.agg (enc (lessL s [defI i])))) hu (l := [3]) rfl (by simp) (by rw [needs_cons hu3, needs_none]; exact (sp_call en_bits_Set_Without (fun M w' hh => bits_Set_Without_ct (l := [defI i]) (Reads.row hh (i := 0) rfl) (fun n hn => by have : n = defI i := (by simpa using hn); subst this; unfold I64; omega) (by simp)))) ?_
  rintro _ _ hu4 ⟨rfl, rfl⟩
  refine Wk.p (ldw ag_api_Ins (i := 2) rfl rfl) ?_
  refine Wk.x (V := NewL 3 1 (readsL i).length (ints (readsL i))) hu (sp_call en_ir_Reads (fun M w' hh => ir_Reads_ct (hi.now hh))) ?_
  rintro _ _ hu6 ⟨A11, c11, rfl, rfl⟩
  refine Wk.xn (V := Is (.agg (enc (aheadF i s)))) hu (l := [6]) rfl (by simp) (by rw [needs_cons hu6, needs_none]; exact (sp_call en_bits_Set_With (fun M w' hh => bits_Set_With_ct (s := lessL s [defI i]) (l := readsL i) (Reads.row hh (i := 0) rfl) (fun n hn => by have := readsL_mem hn; unfold I64; omega) (by omega)))) ?_
  rintro _ _ hu7 ⟨rfl, rfl⟩
  refine Wk.nil ?_
  rw [needs_cons hu7, needs_cons hu6, needs_cons hu4, needs_cons hu3, needs_cons hu2, needs_none]
  refine Ol.s (stw sz_bits_Set (enc_size _) (encF_one _) (i := 2) rfl rfl) ?_
  refine Ol.nil ?_
  exact Cd.ret ⟨.agg _, retc rfl ag_bits_Set rfl (i := 2) rfl (enc_size _), [], .nil, rfl, rfl⟩
end
/-- What goes through a list from its end yields. -/
def ysR {α : Type} (v : α → Value) (l : List α) : List (List Value) := (List.range l.length).map fun k => match l[l.length - 1 - k]? with
  | some x => [.int .i64 ((l.length - 1 - k : Nat) : Int), v x]
  | none => []
theorem ysR_len {α : Type} (v : α → Value) (l : List α) : (ysR v l).length = l.length := by simp [ysR]
theorem ysR_get {α : Type} {v : α → Value} {l : List α} {k q : Nat} {x : α} (hq : l.length = q + k + 1) (hx : l[q]? = some x) : (ysR v l)[k]? = some [.int .i64 (q : Int), v x] := by
  unfold ysR
  rw [List.getElem?_map, List.getElem?_range (by omega)]
  have e : l.length - 1 - k = q := by omega
  simp only [Option.map_some, e, hx]
section
def BackInsV (g : Nat) : Value := .func (.func 104) #[] #[.pointer (some ⟨g, 0, none⟩)]
theorem slices_Backward_Ins_ct {w : World} {A : Option Addr} {n c : Nat} : Ct Tryd.prog 86 #[.slice A n c] w (fun v L => ∃ g, v = BackInsV g ∧ L = [blk g (.cells #[.slice A n c] 60)]) := by
  refine Ct.mk Tryd.func86 rfl rfl ?_
  refine Cd.seq ?_
  refine Cd.region ?_
  refine Ol.x bxs ?_
  rintro _ _ ⟨g1, rfl, rfl⟩
  refine Ol.p (as_ rfl) ?_
  refine Ol.nil ?_
  refine Cd.seq ?_
  refine Cd.region ?_
  refine Ol.p mkf ?_
  refine Ol.p asf ?_
  refine Ol.nil ?_
  exact Cd.ret ⟨_, ret1 rfl rfl, _, .all, g1, rfl, rfl⟩
set_option maxHeartbeats 1000000 in
theorem slices_Backward_Ins_1_it {w0 : World} {B g c : Nat} {A : Option Addr} {l : List RIns} (hl : Reads w0 B 8 A l.length (l.flatMap RIns.cells)) (hb : l.length < 2 ^ 50) : It Tryd.prog w0 B 104 #[.pointer (some ⟨g, 0, none⟩)] [blk g (.cells #[.slice A l.length c] 60)] (ysR RIns.val l) := by
  intro y J Jx L0 hY h0
  refine Cm.mk Tryd.func104 rfl rfl fun M => ?_
  have hret : ∀ {e : Exit} {σ : Env} {Lj D : List Res}, (e = .ret ∨ e = .normal) → (J (ysR RIns.val l).length Lj ∨ ∃ k, Jx k Lj) → Out ⟨Tryd.prog, 19, none, w0, B, M⟩ Tryd.f104 (fun _ L => ∃ Own' Lj, L = Own' ++ Lj ∧ (J (ysR RIns.val l).length Lj ∨ ∃ k, Jx k Lj)) e σ (D ++ Lj) := fun {e σ Lj D} he h => by
    rcases he with rfl | rfl <;> exact ⟨_, ret0 rfl, _, .all, D, Lj, rfl, h⟩
  refine Cd.seq ?_
  refine Cd.region ?_
  refine Ol.p (ldv one_L_api_Ins (i := 0) rfl) ?_
  refine Ol.p (lens sl_L_api_Ins) ?_
  refine Ol.p subi ?_
  refine Ol.p asi ?_
  refine Ol.nil ?_
  refine Cd.block ?_   -- 0
  refine Cd.loop (fun m σ L => ∃ (k : Nat) (Lj : List Res), m = l.length - k ∧ k ≤ l.length ∧ Has σ [(0, .func (.yield y) #[] #[]), (1, .pointer (some ⟨g, 0, none⟩)), (3, .int .i64 ((l.length : Int) - 1 - (k : Int)))] ∧ L = blk g (.cells #[.slice A l.length c] 60) :: Lj ∧ J k Lj) (n := l.length) ⟨0, L0, rfl, Nat.zero_le _, ⟨rfl, rfl, by show Value.int .i64 ((l.length : Int) - 1) = _; rw [show (l.length : Int) - 1 - ((0 : Nat) : Int) = (l.length : Int) - 1 by omega], trivial⟩, rfl, h0⟩ ?_
  rintro _ σ L ⟨k, Lj, rfl, hk, hs, rfl, hJ⟩
  refine Cd.has hs ?_
  refine Cd.seq ?_
  refine Cd.seq ?_
  refine Cd.region ?_
  refine Ol.p mvi ?_
  refine Ol.p gei ?_
  refine Ol.nil ?_
  refine Cd.cond rfl (fun h => ?_) (fun h => ?_)   -- $8
  · have hlt : k < l.length := by
      simp only [decide_eq_true_eq] at h; omega
    obtain ⟨q, hq⟩ : ∃ q : Nat, l.length = q + k + 1 := ⟨l.length - 1 - k, by omega⟩
    have hqi : (l.length : Int) - 1 - (k : Int) = (q : Int) := by omega
    obtain ⟨x, hx⟩ : ∃ x, l[q]? = some x := ⟨_, List.getElem?_eq_getElem (by omega)⟩
    have hy1 := ysR_get (v := RIns.val) hq hx
    refine Cd.skip ?_
    refine Cd.seq ?_
    refine Cd.block ?_   -- 1
    refine Cd.seq ?_
    rw [hqi]
    refine Cd.region ?_
    refine Ol.p mvf ?_
    refine Ol.p mvi ?_
    refine Ol.p (ldv one_L_api_Ins (i := 0) rfl) ?_
    refine Ol.p mvi ?_
    refine Ol.p (ixn (ix := q) sl_L_api_Ins (Som.slc hl (by omega))) ?_
    refine Ol.p (lds (es := x.cells) ag_api_Ins hl x.len (fun j u hu => ins_cell hx hu)) ?_
    refine Ol.x (sp_yield (Own := [blk g (.cells #[.slice A l.length c] 60)]) hY hy1 hJ) ?_
    rintro _ _ ⟨bb, Lj', rfl, rfl, ht', hf'⟩
    refine Ol.p noti ?_
    refine Ol.nil ?_
    refine Cd.cond rfl (fun h3 => ?_) (fun h3 => ?_)   -- $18
    · have hb' : bb = false := by simpa using h3
      exact Cd.ret (hret (D := [_]) (.inl rfl) (.inr ⟨_, hf' hb'⟩))
    have hb' : bb = true := by simpa using h3
    refine Cd.skip ?_
    refine Cd.region ?_
    refine Ol.p mvi ?_
    refine Ol.p subi ?_
    refine Ol.p asi ?_
    refine Ol.nil ?_
    refine ⟨l.length - (k + 1), by omega, k + 1, Lj', rfl, by omega, ⟨rfl, rfl, ?_, trivial⟩, rfl, ht' hb'⟩
    show Value.int .i64 ((q : Int) - 1) = _
    congr 1
    omega
  have hk2 : k = l.length := by
    simp only [decide_eq_false_iff_not] at h; omega
  subst hk2
  refine Cd.exit (id := 0) ?_
  refine hret (D := [_]) (.inr rfl) (.inl ?_)
  rw [ysR_len]; exact hJ
end
section
def BackBlockV (g : Nat) : Value := .func (.func 103) #[] #[.pointer (some ⟨g, 0, none⟩)]
theorem slices_Backward_Block_ct {w : World} {A : Option Addr} {n c : Nat} : Ct Tryd.prog 84 #[.slice A n c] w (fun v L => ∃ g, v = BackBlockV g ∧ L = [blk g (.cells #[.slice A n c] 36)]) := by
  refine Ct.mk Tryd.func84 rfl rfl ?_
  refine Cd.seq ?_
  refine Cd.region ?_
  refine Ol.x bxs ?_
  rintro _ _ ⟨g1, rfl, rfl⟩
  refine Ol.p (as_ rfl) ?_
  refine Ol.nil ?_
  refine Cd.seq ?_
  refine Cd.region ?_
  refine Ol.p mkf ?_
  refine Ol.p asf ?_
  refine Ol.nil ?_
  exact Cd.ret ⟨_, ret1 rfl rfl, _, .all, g1, rfl, rfl⟩
set_option maxHeartbeats 1000000 in
theorem slices_Backward_Block_1_it {w0 : World} {B g c : Nat} {A : Option Addr} {l : List RBlk} (hl : Reads w0 B 5 A l.length (l.flatMap RBlk.cells)) (hb : l.length < 2 ^ 50) : It Tryd.prog w0 B 103 #[.pointer (some ⟨g, 0, none⟩)] [blk g (.cells #[.slice A l.length c] 36)] (ysR RBlk.val l) := by
  intro y J Jx L0 hY h0
  refine Cm.mk Tryd.func103 rfl rfl fun M => ?_
  have hret : ∀ {e : Exit} {σ : Env} {Lj D : List Res}, (e = .ret ∨ e = .normal) → (J (ysR RBlk.val l).length Lj ∨ ∃ k, Jx k Lj) → Out ⟨Tryd.prog, 19, none, w0, B, M⟩ Tryd.f103 (fun _ L => ∃ Own' Lj, L = Own' ++ Lj ∧ (J (ysR RBlk.val l).length Lj ∨ ∃ k, Jx k Lj)) e σ (D ++ Lj) := fun {e σ Lj D} he h => by
    rcases he with rfl | rfl <;> exact ⟨_, ret0 rfl, _, .all, D, Lj, rfl, h⟩
  refine Cd.seq ?_
  refine Cd.region ?_
  refine Ol.p (ldv one_L_api_Block (i := 0) rfl) ?_
  refine Ol.p (lens sl_L_api_Block) ?_
  refine Ol.p subi ?_
  refine Ol.p asi ?_
  refine Ol.nil ?_
  refine Cd.block ?_   -- 0
  refine Cd.loop (fun m σ L => ∃ (k : Nat) (Lj : List Res), m = l.length - k ∧ k ≤ l.length ∧ Has σ [(0, .func (.yield y) #[] #[]), (1, .pointer (some ⟨g, 0, none⟩)), (3, .int .i64 ((l.length : Int) - 1 - (k : Int)))] ∧ L = blk g (.cells #[.slice A l.length c] 36) :: Lj ∧ J k Lj) (n := l.length) ⟨0, L0, rfl, Nat.zero_le _, ⟨rfl, rfl, by show Value.int .i64 ((l.length : Int) - 1) = _; rw [show (l.length : Int) - 1 - ((0 : Nat) : Int) = (l.length : Int) - 1 by omega], trivial⟩, rfl, h0⟩ ?_
  rintro _ σ L ⟨k, Lj, rfl, hk, hs, rfl, hJ⟩
  refine Cd.has hs ?_
  refine Cd.seq ?_
  refine Cd.seq ?_
  refine Cd.region ?_
  refine Ol.p mvi ?_
  refine Ol.p gei ?_
  refine Ol.nil ?_
  refine Cd.cond rfl (fun h => ?_) (fun h => ?_)   -- $8
  · have hlt : k < l.length := by
      simp only [decide_eq_true_eq] at h; omega
    obtain ⟨q, hq⟩ : ∃ q : Nat, l.length = q + k + 1 := ⟨l.length - 1 - k, by omega⟩
    have hqi : (l.length : Int) - 1 - (k : Int) = (q : Int) := by omega
    obtain ⟨x, hx⟩ : ∃ x, l[q]? = some x := ⟨_, List.getElem?_eq_getElem (by omega)⟩
    have hy1 := ysR_get (v := RBlk.val) hq hx
    refine Cd.skip ?_
    refine Cd.seq ?_
    refine Cd.block ?_   -- 1
    refine Cd.seq ?_
    rw [hqi]
    refine Cd.region ?_
    refine Ol.p mvf ?_
    refine Ol.p mvi ?_
    refine Ol.p (ldv one_L_api_Block (i := 0) rfl) ?_
    refine Ol.p mvi ?_
    refine Ol.p (ixn (ix := q) sl_L_api_Block (Som.slc hl (by omega))) ?_
    refine Ol.p (lds (es := x.cells) ag_api_Block hl x.len (fun j u hu => blk_cell hx hu)) ?_
    refine Ol.x (sp_yield (Own := [blk g (.cells #[.slice A l.length c] 36)]) hY hy1 hJ) ?_
    rintro _ _ ⟨bb, Lj', rfl, rfl, ht', hf'⟩
    refine Ol.p noti ?_
    refine Ol.nil ?_
    refine Cd.cond rfl (fun h3 => ?_) (fun h3 => ?_)   -- $18
    · have hb' : bb = false := by simpa using h3
      exact Cd.ret (hret (D := [_]) (.inl rfl) (.inr ⟨_, hf' hb'⟩))
    have hb' : bb = true := by simpa using h3
    refine Cd.skip ?_
    refine Cd.region ?_
    refine Ol.p mvi ?_
    refine Ol.p subi ?_
    refine Ol.p asi ?_
    refine Ol.nil ?_
    refine ⟨l.length - (k + 1), by omega, k + 1, Lj', rfl, by omega, ⟨rfl, rfl, ?_, trivial⟩, rfl, ht' hb'⟩
    show Value.int .i64 ((q : Int) - 1) = _
    congr 1
    omega
  have hk2 : k = l.length := by
    simp only [decide_eq_false_iff_not] at h; omega
  subst hk2
  refine Cd.exit (id := 0) ?_
  refine hret (D := [_]) (.inr rfl) (.inl ?_)
  rw [ysR_len]; exact hJ
end
end Go.Proofs.YtbcnejobnmljlaaDoor

/- The package live: a block's points, walked. -/
namespace Go.Proofs.YtbcnejobnmljlaaDoor
set_option linter.unusedVariables false
open Go Go.RowKit
set_option maxRecDepth 100000

/-- A block that can be read from outside. -/
structure BlkIn (w : World) (B : Nat) (b : RBlk) : Prop where
  ins : Reads w B 8 b.iA b.ins.length (b.ins.flatMap RIns.cells)
  args : ∀ i ∈ b.ins, Reads w B 1 i.aA i.args.length (ints i.args)
  alen : ∀ i ∈ b.ins, i.args.length < 2 ^ 50
  callee : ∀ i ∈ b.ins, -9223372036854775808 ≤ i.callee ∧ i.callee ≤ 9223372036854775807
  len : b.ins.length < 2 ^ 50
theorem BlkIn.at_ {w0 w : World} {B : Nat} {L : List Res} {b : RBlk} (h : BlkIn w0 B b) (hh : Hp w0 B L w) {i : RIns} (hi : i ∈ b.ins) : InsAt w i := ⟨(h.args i hi).now hh, h.alen i hi, h.callee i hi⟩
theorem BlkIn.now {w0 w : World} {B : Nat} {L : List Res} {b : RBlk} (h : BlkIn w0 B b) (hh : Hp w0 B L w) : BlkIn w w.heap.size b := ⟨h.ins.now hh, fun i hi => (h.args i hi).now hh, h.alen, h.callee, h.len⟩
/-- What the points of a block yield. -/
def ysP (b : RBlk) (out : Nat) : List (List Value) := (List.range (b.ins.length + 1)).map fun j => [.int .i64 ((b.ins.length - j : Nat) : Int), .agg (enc (ptAt b.ins (endS b out) (b.ins.length - j)))]
theorem ysP_len (b : RBlk) (out : Nat) : (ysP b out).length = b.ins.length + 1 := by simp [ysP]
theorem ysP_get {b : RBlk} {out q k : Nat} (h : b.ins.length = q + k) : (ysP b out)[k]? = some [.int .i64 (q : Int), .agg (enc (ptAt b.ins (endS b out) q))] := by
  unfold ysP
  rw [List.getElem?_map, List.getElem?_range (by omega)]
  have e : b.ins.length - k = q := by omega
  simp only [Option.map_some, e]
theorem ysR_inv {α : Type} {v : α → Value} {l : List α} {k : Nat} {vs : List Value} (h : (ysR v l)[k]? = some vs) : ∃ q x, l.length = q + k + 1 ∧ l[q]? = some x ∧ vs = [.int .i64 (q : Int), v x] := by
  have hk := (List.getElem?_eq_some_iff.1 h).1
  rw [ysR_len] at hk
  obtain ⟨x, hx⟩ : ∃ x, l[l.length - 1 - k]? = some x := ⟨_, List.getElem?_eq_getElem (by omega)⟩
  refine ⟨l.length - 1 - k, x, by omega, hx, ?_⟩
  have := ysR_get (v := v) (l := l) (k := k) (q := l.length - 1 - k) (by omega) hx
  rw [h] at this
  exact Option.some.inj this
theorem ysR_two {α : Type} {v : α → Value} {l : List α} : ∀ vs ∈ ysR v l, vs.length = 2 := fun vs hvs => by
  obtain ⟨k, hk⟩ := List.mem_iff_getElem?.1 hvs
  obtain ⟨q, x, _, _, rfl⟩ := ysR_inv hk
  rfl
section
def PointsV (gO gB : Nat) : Value := .func (.func 85) #[] #[.pointer (some ⟨gO, 0, none⟩), .pointer (some ⟨gB, 0, none⟩)]
theorem live_points_ct {w : World} {b : RBlk} {out : Nat} : Ct Tryd.prog 69 #[b.val, .agg (enc out)] w (fun v L => ∃ gO gB, v = PointsV gO gB ∧ L = [blk gO (.cells (enc out) 27), blk gB (.cells b.cells.toArray 66)]) := by
  refine Ct.mk Tryd.func69 rfl rfl ?_
  refine Cd.seq ?_
  refine Cd.region ?_
  refine Ol.x bxg ?_
  rintro _ _ ⟨g2, rfl, rfl⟩
  refine Ol.x bxg ?_
  rintro _ _ ⟨g3, rfl, rfl⟩
  refine Ol.p (as_ rfl) ?_
  refine Ol.nil ?_
  refine Cd.seq ?_
  refine Cd.region ?_
  refine Ol.p mkf ?_
  refine Ol.p asf ?_
  refine Ol.nil ?_
  exact Cd.ret ⟨_, ret1 rfl rfl, _, .all, g3, g2, rfl, rfl⟩
set_option maxHeartbeats 2000000 in
theorem live_points_1_it {w0 : World} {B gO gB : Nat} {b : RBlk} {out : Nat} (hb : BlkIn w0 B b) : It Tryd.prog w0 B 85 #[.pointer (some ⟨gO, 0, none⟩), .pointer (some ⟨gB, 0, none⟩)] [blk gO (.cells (enc out) 27), blk gB (.cells b.cells.toArray 66)] (ysP b out) := by
  intro y J Jx L0 hY h0
  have hbl := hb.len
  have hnl := needsL_len b.term
  refine Cm.mk Tryd.func85 rfl rfl fun M => ?_
  have hret : ∀ {e : Exit} {σ : Env} {Lj D : List Res}, (e = .ret ∨ e = .normal) → (J (ysP b out).length Lj ∨ ∃ k, Jx k Lj) → Out ⟨Tryd.prog, 32, none, w0, B, M⟩ Tryd.f85 (fun _ L => ∃ Own' Lj, L = Own' ++ Lj ∧ (J (ysP b out).length Lj ∨ ∃ k, Jx k Lj)) e σ (D ++ Lj) := fun {e σ Lj D} he h => by
    rcases he with rfl | rfl <;> exact ⟨_, ret0 rfl, _, .all, D, Lj, rfl, h⟩
  refine Cd.seq ?_
  refine Cd.region ?_
  refine Ol.x bxf ?_
  rintro _ _ ⟨g3, rfl, rfl⟩
  refine Ol.nil ?_
  refine Cd.seq ?_
  refine Cd.draw mixed 6 (fun opNo => match opNo with | 3 => some (NewL 3 1 (needsL b.term).length (ints (needsL b.term))) | 4 => some (Is (.agg (enc (endS b out)))) | 5 => some (NewPv (.cells #[.int .u64 0, .int .u64 0, .int .u64 0, .int .u64 0, .int .u64 0, .int .u64 0, .int .u64 0, .int .u64 0, .int .u64 0, .int .u64 0, .int .u64 0, .int .u64 0, .int .u64 0, .int .u64 0, .int .u64 0, .int .u64 0] 27)) | _ => none) (fun opNo => match opNo with | 4 => [3] | _ => []) (by kernel_rfl) (by intro q V h; split at h <;> cases h; exact ⟨_, _, none, 0, rfl, rfl⟩; exact ⟨_, [], rfl, rfl⟩; exact ⟨_, _, 0, rfl, rfl⟩) (fun u hu => ?_)
  refine Wk.p (ldw ag_bits_Set (i := 1) rfl (enc_size _)) ?_
  refine Wk.p (fdl fd_api_Block_1) ?_
  refine Wk.p (ldp (k := 0 + 1) (vs := b.term.cells.toArray) ag_api_Term (i := 2) rfl rfl (fun j u hu => by rw [Nat.zero_add, Nat.add_comm]; simpa [RBlk.cells] using hu)) ?_
  refine Wk.x (V := NewL 3 1 (needsL b.term).length (ints (needsL b.term))) hu (sp_call en_ir_Needs (fun M w' hh => ir_Needs_ct (t := b.term))) ?_
  rintro _ _ hu3 ⟨A10, c10, rfl, rfl⟩
  refine Wk.xn (V := Is (.agg (enc (endS b out)))) hu (l := [3]) rfl (by simp) (by rw [needs_cons hu3, needs_none]; exact (sp_call en_bits_Set_With (fun M w' hh => bits_Set_With_ct (s := out) (l := needsL b.term) (Reads.row hh (i := 0) rfl) (fun n hn => by have := needsL_mem hn; unfold I64; omega) (by omega)))) ?_
  rintro _ _ hu4 ⟨rfl, rfl⟩
  refine Wk.x (V := NewPv (.cells #[.int .u64 0, .int .u64 0, .int .u64 0, .int .u64 0, .int .u64 0, .int .u64 0, .int .u64 0, .int .u64 0, .int .u64 0, .int .u64 0, .int .u64 0, .int .u64 0, .int .u64 0, .int .u64 0, .int .u64 0, .int .u64 0] 27)) hu (NewP.adds (alc zr_bits_Set)) ?_
  rintro _ _ hu5 ⟨g4, rfl, rfl⟩
  refine Wk.nil ?_
  rw [needs_cons hu5, needs_cons hu4, needs_cons hu3, needs_none]
  refine Ol.s (stw sz_bits_Set (enc_size _) (encF_one _) (i := 0) rfl rfl) ?_
  refine Ol.nil ?_
  have hy0 : (ysP b out)[0]? = some [.int .i64 (b.ins.length : Int), .agg (enc (endS b out))] := by
    have := ysP_get (b := b) (out := out) (q := b.ins.length) (k := 0) rfl
    rw [ptAt_end] at this; exact this
  refine Cd.seq ?_
  refine Cd.seq ?_
  refine Cd.region ?_
  refine Ol.p (ldv one_func_int_bits_Set_bool (i := 2) rfl) ?_
  refine Ol.p (fdl fd_api_Block_0) ?_
  refine Ol.p (ld one_L_api_Ins (Rd.blk (i := 4) rfl rfl)) ?_
  refine Ol.p (lens sl_L_api_Ins) ?_
  refine Ol.p (ldw ag_bits_Set (i := 0) rfl (enc_size _)) ?_
  refine Ol.x (sp_yield (Own := [blk g4 (.cells (enc (endS b out)) 27), row (.slice A10 (needsL b.term).length c10) 3 1 (needsL b.term).length (ints (needsL b.term)), blk g3 (.cells #[.func (.yield y) #[] #[]] 117), blk gO (.cells (enc out) 27), blk gB (.cells b.cells.toArray 66)]) hY hy0 h0) ?_
  rintro _ _ ⟨bb, Lj, rfl, rfl, ht, hf⟩
  refine Ol.p noti ?_
  refine Ol.nil ?_
  refine Cd.cond rfl (fun h => ?_) (fun h => ?_)   -- $18
  · have hb' : bb = false := by simpa using h
    exact Cd.ret (hret (D := [_, _, _, _, _]) (.inl rfl) (.inr ⟨_, hf hb'⟩))
  have hb' : bb = true := by simpa using h
  have hJ1 := ht hb'
  refine Cd.skip ?_
  refine Cd.seq ?_
  refine Cd.region ?_
  refine Ol.p (fdl fd_api_Block_0) ?_
  refine Ol.p (ld one_L_api_Ins (Rd.blk (i := 4) rfl rfl)) ?_
  refine Ol.x (sp_call en_slices_Backward_L_api_Ins_api_Ins (fun M w' hh => slices_Backward_Ins_ct)) ?_
  rintro _ _ ⟨_, rfl, gS, rfl, rfl⟩
  refine Ol.nil ?_
  obtain ⟨R, hR⟩ : ∃ R, R = row (.slice A10 (needsL b.term).length c10) 3 1 (needsL b.term).length (ints (needsL b.term)) := ⟨_, rfl⟩
  refine Cd.block ?_   -- 0
  refine Cd.rf (Own := [blk gS (.cells #[.slice b.iA b.ins.length b.iC] 60)]) (L0 := [blk g4 (.cells (enc (endS b out)) 27), R, blk g3 (.cells #[.func (.yield y) #[] #[]] 117), blk gO (.cells (enc out) 27), blk gB (.cells b.cells.toArray 66)] ++ Lj)
    (fun k L => ∃ q Lo, b.ins.length = q + k ∧ L = [blk g4 (.cells (enc (ptAt b.ins (endS b out) q)) 27), R, blk g3 (.cells #[.func (.yield y) #[] #[]] 117), blk gO (.cells (enc out) 27), blk gB (.cells b.cells.toArray 66)] ++ Lo ∧ J (k + 1) Lo)
    (fun _ c L => c = .ret ∧ ∃ D Lo, L = D ++ Lo ∧ ∃ k, Jx k Lo) (fun _ h => by cases h) en_slices_Backward_L_api_Ins_api_Ins_1 (slices_Backward_Ins_1_it hb.ins hbl) (by rw [hR]) ⟨b.ins.length, Lj, rfl, by rw [ptAt_end], hJ1⟩ ysR_two rfl ?_ ?_ ?_
  · rintro l H k vs _ hk ⟨q1, Lo, hq1, rfl, hJ⟩
    obtain ⟨q, x, hq, hx, rfl⟩ := ysR_inv hk
    have hxm := List.mem_of_getElem? hx
    have e1 : q1 = q + 1 := by omega
    subst e1
    have hyk := ysP_get (b := b) (out := out) (q := q) (k := k + 1) (by omega)
    have hpt := ptAt_at (s := endS b out) hx
    refine Cd.seq ?_
    refine Cd.region ?_
    refine Ol.p asi ?_
    refine Ol.nil ?_
    refine Cd.region ?_
    refine Ol.x (alc zr_api_Ins) ?_
    rintro _ _ ⟨g6, rfl, rfl⟩
    refine Ol.s (stw sz_api_Ins rfl x.one (i := 0) rfl rfl) ?_
    refine Ol.nil ?_
    intro H' r hr
    refine Cd.block ?_   -- 1
    refine Cd.seq ?_
    refine Cd.region ?_
    refine Ol.p (ldw ag_api_Ins (i := 0) rfl rfl) ?_
    refine Ol.p (ldw ag_bits_Set (i := 1) rfl (enc_size _)) ?_
    refine Ol.s (cl en_live_ahead (fun M w' hh => live_ahead_ct (hb.at_ hh hxm))) ?_
    refine Ol.s (stw sz_bits_Set (enc_size _) (encF_one _) (i := 1) rfl (enc_size _)) ?_
    refine Ol.nil ?_
    rw [← hpt]
    refine Cd.seq ?_
    refine Cd.region ?_
    refine Ol.p (ldv one_func_int_bits_Set_bool (i := 3) rfl) ?_
    refine Ol.p mvi ?_
    refine Ol.p (ldw ag_bits_Set (i := 1) rfl (enc_size _)) ?_
    refine Ol.x (sp_yield (Own := [blk g6 (.cells x.cells.toArray 72), blk g4 (.cells (enc (ptAt b.ins (endS b out) q)) 27), R, blk g3 (.cells #[.func (.yield y) #[] #[]] 117), blk gO (.cells (enc out) 27), blk gB (.cells b.cells.toArray 66)]) hY hyk hJ) ?_
    rintro _ _ ⟨bb2, Lj2, rfl, rfl, ht2, hf2⟩
    refine Ol.p noti ?_
    refine Ol.nil ?_
    refine Cd.cond rfl (fun h2 => ?_) (fun h2 => ?_)   -- $31
    · have hb2 : bb2 = false := by simpa using h2
      exact Cd.ret ⟨rfl, _, Lj2, rfl, _, hf2 hb2⟩
    have hb2 : bb2 = true := by simpa using h2
    refine Cd.keep (.sub (.cons _ (List.Sublist.refl _))) ?_
    exact Cd.skip ⟨q, Lj2, by omega, rfl, ht2 hb2⟩
  · rintro L' ⟨q, Lo, hq, rfl, hJ⟩
    refine hret (.inr rfl) (.inl ?_)
    rw [ysP_len]
    rw [ysR_len] at hJ
    exact hJ
  · rintro k c L' ⟨rfl, D, Lo, rfl, k2, hk2⟩
    exact Cd.ret (hret (.inl rfl) (.inr ⟨k2, hk2⟩))
end
end Go.Proofs.YtbcnejobnmljlaaDoor

/- Sets of a function's blocks, as they lie: an array of sets. -/
namespace Go.Proofs.YtbcnejobnmljlaaDoor
set_option linter.unusedVariables false
open Go Go.RowKit
set_option maxRecDepth 10000

def memA (n : Nat) (I : Nat → Nat) : Array Value := rngV (n * 16) fun q => .int .u64 ((wd (I (q / 16)) (q % 16) : Nat) : Int)
theorem memA_size (n : Nat) (I : Nat → Nat) : (memA n I).size = n * 16 := rngV_size _ _
theorem memA_load {n b : Nat} {I : Nat → Nat} (hb : b < n) : ∀ (j : Nat) (u : Value), (enc (I b)).toList[j]? = some u → (memA n I)[b * 16 + j]? = some u := fun j u hu => by
  have hj : j < 16 := by
    have := (List.getElem?_eq_some_iff.1 hu).1
    have h2 := enc_size (I b)
    simp at this; omega
  rw [Array.getElem?_toList] at hu
  unfold enc at hu
  rw [encF_get hj] at hu
  have h1 : b * 16 + j < n * 16 := by
    have : (b + 1) * 16 ≤ n * 16 := Nat.mul_le_mul_right _ hb
    omega
  unfold memA
  rw [rngV_get h1, show (b * 16 + j) / 16 = b by omega, show (b * 16 + j) % 16 = j by omega]
  exact hu
theorem memA_sta {n b : Nat} {I : Nat → Nat} {s : Nat} (hb : b < n) : ((memA n I).toList.take (b * 16) ++ (enc s).toList ++ (memA n I).toList.drop (b * 16 + 16)).toArray = memA n (setN I b s) := by
  have hle : (b + 1) * 16 ≤ n * 16 := Nat.mul_le_mul_right _ hb
  have hsz := memA_size n I
  apply Array.ext'
  apply List.ext_getElem?
  intro q
  have hl1 : ((memA n I).toList.take (b * 16)).length = b * 16 := by simp [hsz]; omega
  have hl2 : (enc s).toList.length = 16 := by have := enc_size s; simp [this]
  have hget : ∀ (J : Nat → Nat) (q : Nat), q < n * 16 → (memA n J)[q]? = some (.int .u64 ((wd (J (q / 16)) (q % 16) : Nat) : Int)) := fun J q hq => rngV_get hq
  rw [Array.getElem?_toList (xs := memA n (setN I b s))]
  show ((memA n I).toList.take (b * 16) ++ (enc s).toList ++ (memA n I).toList.drop (b * 16 + 16))[q]? = _
  by_cases h1 : q < b * 16
  · rw [List.append_assoc, List.getElem?_append_left (by omega), List.getElem?_take, if_pos h1, Array.getElem?_toList, hget I q (by omega), hget _ q (by omega), setN_other (by omega)]
  · by_cases h2 : q < b * 16 + 16
    · rw [List.append_assoc, List.getElem?_append_right (by omega), hl1, List.getElem?_append_left (by omega), Array.getElem?_toList, hget _ q (by omega), show q / 16 = b by omega, setN_same]
      unfold enc
      rw [encF_get (by omega), show q - b * 16 = q % 16 by omega]
    · rw [List.getElem?_append_right (by simp only [List.length_append]; omega), List.length_append, hl1, hl2, List.getElem?_drop, Array.getElem?_toList, show b * 16 + 16 + (q - (b * 16 + 16)) = q by omega]
      by_cases h3 : q < n * 16
      · rw [hget I q h3, hget _ q h3, setN_other (by omega)]
      · rw [Array.getElem?_eq_none (by omega), Array.getElem?_eq_none (by rw [memA_size]; omega)]
theorem made_memA (n : Nat) : (madeCells (enc 0) (n * 16)) = memA n fun _ => 0 := by
  apply Array.ext'
  apply List.ext_getElem?
  intro i
  rw [Array.getElem?_toList, Array.getElem?_toList]
  by_cases h : i < n * 16
  · unfold memA
    rw [rngV_get h]
    have h2 : i % 16 < 16 := Nat.mod_lt _ (by decide)
    have h3 : (enc 0)[i % 16]! = .int .u64 0 := by
      have : (enc 0)[i % 16]? = some (.int .u64 ((wd 0 (i % 16) : Nat) : Int)) := by unfold enc; exact encF_get h2
      rw [getElem!_def, this, wd_zero]; rfl
    rw [wd_zero]
    simp [madeCells, h, enc_size, h3]
  · have h1 : (madeCells (enc 0) (n * 16))[i]? = none := Array.getElem?_eq_none (by simp [madeCells]; omega)
    have h2 : (memA n fun _ => 0)[i]? = none := Array.getElem?_eq_none (by rw [memA_size]; omega)
    rw [h1, h2]
end Go.Proofs.YtbcnejobnmljlaaDoor

/- The package live: solved, walked. -/
namespace Go.Proofs.YtbcnejobnmljlaaDoor
set_option linter.unusedVariables false
open Go Go.RowKit
set_option maxRecDepth 100000

def NewBv (e n : Nat) (cs : Array Value) : Value → List Res → Prop := fun v R => ∃ g, v = .slice (some ⟨g, 0, none⟩) n n ∧ R = [blk g (.cells cs e)]
theorem NewS.blk {P : Program} {w0 : World} {B : Nat} {σ : Env} {L : List Res} {o : Oper} {e s n : Nat} {xs : List Value} {cs : Array Value} (hcs : cs.size = n * s) (hxs : xs = cs.toList) (h : Sp P w0 B o σ L (NewS e s n n xs L)) : Sp P w0 B o σ L (Adds (NewBv e n cs) L) := fun M w hh =>
  Goes.mono (h M w hh) fun v w' ⟨L', h1, g, h2, h3⟩ => by
    subst h3
    subst h2
    obtain ⟨cs', h4, h5, h6⟩ := Hp.unrow h1
    have e : cs' = cs := by
      apply Array.ext'
      rw [← hxs, ← h5, List.take_of_length_le (by simp [h4])]
    subst e
    exact ⟨_, h6, [_], rfl, g, rfl, rfl⟩
theorem setN_id (I : Nat → Nat) (b : Nat) : setN I b (I b) = I := by
  funext x
  by_cases e : x = b
  · subst e; rw [setN_same]
  · rw [setN_other e]
theorem setN_twice (I : Nat → Nat) (b s t : Nat) : setN (setN I b s) b t = setN I b t := by
  funext x
  by_cases e : x = b
  · subst e; rw [setN_same, setN_same]
  · rw [setN_other e, setN_other e, setN_other e]
theorem ixm {P : Program} {w0 : World} {B : Nat} {σ : Env} {L : List Res} {d : Option Nat} {ty T : TypeId} {pos : String} {af : Array Edge} {gd : Option (Nat × Bool)} {x y : Operand} {g ix n c e b : Nat} {k : IntKind} (hT : SlT P T e 16 b) (hx : ev σ x = .slice (some ⟨g, 0, none⟩) n c := by exact rfl) (hy : ev σ y = .int k (ix : Int) := by exact rfl) (h : ix < n := by omega) :
    Sd P w0 B ⟨d, .indexAddr T x y, ty, pos, af, gd⟩ σ L (.pointer (some ⟨g, ix * 16, none⟩)) := by
  have := ixo (d := d) (ty := ty) (pos := pos) (af := af) (gd := gd) (P := P) (w0 := w0) (B := B) (L := L) hT hx hy h
  rwa [Nat.zero_add] at this
theorem FunAt.blkIn {w : World} {B : Nat} {f : RFun} (hf : FunAt w B f) (hfit : Fit f) {b : RBlk} (hb : b ∈ f.blocks) : BlkIn w B b :=
  ⟨hf.ins b hb, fun i hi => hf.args b hb i hi, fun i hi => hfit.alen b hb i hi, fun i hi => hfit.insr b hb i hi i.callee (by simp), hfit.ilen b hb⟩
theorem ysP_inv {b : RBlk} {out k : Nat} {vs : List Value} (h : (ysP b out)[k]? = some vs) : ∃ q, b.ins.length = q + k ∧ vs = [.int .i64 (q : Int), .agg (enc (ptAt b.ins (endS b out) q))] := by
  have hk := (List.getElem?_eq_some_iff.1 h).1
  rw [ysP_len] at hk
  refine ⟨b.ins.length - k, by omega, ?_⟩
  rw [ysP_get (q := b.ins.length - k) (by omega)] at h
  exact (Option.some.inj h).symm
theorem ysP_two {b : RBlk} {out : Nat} : ∀ vs ∈ ysP b out, vs.length = 2 := fun vs hvs => by
  obtain ⟨k, hk⟩ := List.mem_iff_getElem?.1 hvs
  obtain ⟨q, _, rfl⟩ := ysP_inv hk
  rfl
section
set_option maxHeartbeats 8000000 in
theorem live_solved_ct {w : World} {f : RFun} (hf : FunAt w w.heap.size f) (hfit : Fit f) (hok : okEs f.terms = true) (h200 : f.blocks.length ≤ 200) :
    Ct Tryd.prog 68 #[f.val] w (fun v R => ∃ gI gO I O, v = .agg #[.slice (some ⟨gI, 0, none⟩) f.blocks.length f.blocks.length, .slice (some ⟨gO, 0, none⟩) f.blocks.length f.blocks.length] ∧ R = [blk gO (.cells (memA f.blocks.length O) 27), blk gI (.cells (memA f.blocks.length I) 27)] ∧ (∀ b, Sm (I b)) ∧ (∀ b, Sm (O b)) ∧ (∀ b v, (I b).testBit v = true ↔ Lv f v b) ∧ ∀ b v, (O b).testBit v = true ↔ Lo f v b) := by
  have htl : f.terms.length = f.blocks.length := by simp [RFun.terms]
  obtain ⟨n, hn⟩ : ∃ n, n = f.blocks.length := ⟨_, rfl⟩
  rw [← hn]
  have hto : ∀ (a : Nat) (x : RBlk), f.blocks[a]? = some x → ∀ m ∈ toL x.term, 1 ≤ m ∧ m < (n : Int) := fun a x ha m hm => by
    have ht : f.terms[a]? = some x.term := by simp [RFun.terms, ha]
    have := okEs_at hok (a := a) (by rw [toAt_some ht]; exact hm)
    omega
  refine Ct.mk Tryd.func68 rfl rfl ?_
  refine Cd.seq ?_
  refine Cd.region ?_
  refine Ol.x bxg ?_
  rintro _ _ ⟨g1, rfl, rfl⟩
  refine Ol.x (alc zr_live_flow) ?_
  rintro _ _ ⟨g2, rfl, rfl⟩
  refine Ol.nil ?_
  refine Cd.seq ?_
  have hz : (madeCells (Value.agg #[.int .u64 0, .int .u64 0, .int .u64 0, .int .u64 0, .int .u64 0, .int .u64 0, .int .u64 0, .int .u64 0, .int .u64 0, .int .u64 0, .int .u64 0, .int .u64 0, .int .u64 0, .int .u64 0, .int .u64 0, .int .u64 0]).cells (n * 16)).toList.take (n * 16) = (memA n fun _ => 0).toList := by
    rw [← made_memA, enc0, List.take_of_length_le (by simp [madeCells])]
    rfl
  refine Cd.draw mixed 10 (fun opNo => match opNo with | 3 => some (NewBv 27 n (memA n fun _ => 0)) | 7 => some (NewBv 27 n (memA n fun _ => 0)) | 9 => some (NewPv (.cells #[.slice none 0 0, .slice none 0 0] 102)) | _ => none) (fun _ => []) (by kernel_rfl) (by intro q V h; split at h <;> cases h; exact ⟨_, _, 0, rfl, rfl⟩; exact ⟨_, _, 0, rfl, rfl⟩; exact ⟨_, _, 0, rfl, rfl⟩) (fun u hu => ?_)
  refine Wk.p (fdl fd_api_Func_1) ?_
  refine Wk.p (ld one_L_api_Block (Rd.blk (i := 1) rfl rfl)) ?_
  refine Wk.p (lens sl_L_api_Block) ?_
  refine Wk.x (V := NewBv 27 n (memA n fun _ => 0)) hu (NewS.blk (memA_size _ _) hz (mks (n := n) (c := n) sl_L_bits_Set zr_bits_Set (hx := by rw [hn]; rfl) (hy := by rw [hn]; rfl))) ?_
  rintro _ _ hu3 ⟨gI, rfl, rfl⟩
  refine Wk.p (fdl fd_api_Func_1) ?_
  refine Wk.p (ld one_L_api_Block (Rd.blk (i := 1) rfl rfl)) ?_
  refine Wk.p (lens sl_L_api_Block) ?_
  refine Wk.x (V := NewBv 27 n (memA n fun _ => 0)) hu (NewS.blk (memA_size _ _) hz (mks (n := n) (c := n) sl_L_bits_Set zr_bits_Set (hx := by rw [hn]; rfl) (hy := by rw [hn]; rfl))) ?_
  rintro _ _ hu7 ⟨gO, rfl, rfl⟩
  refine Wk.p (bds (cs := #[.slice (some ⟨gI, 0, none⟩) n n, .slice (some ⟨gO, 0, none⟩) n n]) bs_live_flow zr_live_flow (hf := by kernel_rfl)) ?_
  refine Wk.x (V := NewPv (.cells #[.slice none 0 0, .slice none 0 0] 102)) hu (NewP.adds (alc zr_live_flow)) ?_
  rintro _ _ hu9 ⟨g3, rfl, rfl⟩
  refine Wk.nil ?_
  rw [needs_cons hu9, needs_cons hu7, needs_cons hu3, needs_none]
  refine Ol.s (stw (vs := #[.slice (some ⟨gI, 0, none⟩) n n, .slice (some ⟨gO, 0, none⟩) n n]) sz_live_flow rfl (by intro u hu; simp at hu; rcases hu with rfl | rfl <;> rfl) (i := 0) rfl rfl) ?_
  refine Ol.nil ?_
  obtain ⟨T, hT⟩ : ∃ T, T = [blk g2 (.cells #[.slice none 0 0, .slice none 0 0] 102), blk g1 (.cells f.cells.toArray 38)] := ⟨_, rfl⟩
  refine Cd.seq ?_
  refine Cd.seq ?_
  refine Cd.region ?_
  refine Ol.x (alc zr_bool) ?_
  rintro _ _ ⟨g4, rfl, rfl⟩
  refine Ol.s (stv sz_bool (i := 0) rfl rfl) ?_
  refine Ol.nil ?_
  refine Cd.block ?_   -- 0
  refine Cd.loop (fun m σ L => ∃ (I O : Nat → Nat) (mv : Bool) (g4 : Nat), m = muN n I + (if mv = true then 1 else 0) ∧ Liv f I O ∧ (mv = false → ∀ b x, f.blocks[b]? = some x → I b = pre0 x (O b) ∧ ∀ to : Nat, (to : Int) ∈ toL x.term → Sub (I to) (O b)) ∧ Has σ [(1, .pointer (some ⟨g1, 0, none⟩)), (2, .pointer (some ⟨g2, 0, none⟩)), (3, .pointer (some ⟨g3, 0, none⟩)), (4, .pointer (some ⟨g4, 0, none⟩))] ∧
    [blk g4 (.cells #[.bool mv] 4), blk g3 (.cells #[.slice (some ⟨gI, 0, none⟩) n n, .slice (some ⟨gO, 0, none⟩) n n] 102), blk gO (.cells (memA n O) 27), blk gI (.cells (memA n I) 27)] ++ T = L) (n := muN n (fun _ => 0) + 1) ⟨fun _ => 0, fun _ => 0, true, g4, rfl, Liv.start f, (fun h => by cases h), ⟨rfl, rfl, rfl, rfl, trivial⟩, by rw [hT]; rfl⟩ ?_
  rintro _ σ L ⟨I, O, mv, g4, rfl, hL, hst, hs, rfl⟩
  refine Cd.has hs ?_
  rw [hT]
  refine Cd.seq ?_
  refine Cd.seq ?_
  refine Cd.region ?_
  refine Ol.p (ldv one_bool (i := 0) rfl) ?_
  refine Ol.nil ?_
  refine Cd.cond rfl (fun h => ?_) (fun h => ?_)   -- $21
  · subst h
    refine Cd.skip ?_
    refine Cd.seq ?_
    refine Cd.block ?_   -- 1
    refine Cd.seq ?_
    refine Cd.region ?_
    refine Ol.s (stv sz_bool (i := 0) rfl rfl) ?_
    refine Ol.nil ?_
    refine Cd.seq ?_
    refine Cd.region ?_
    refine Ol.p (fdl fd_api_Func_1) ?_
    refine Ol.p (ld one_L_api_Block (Rd.blk (i := 5) rfl rfl)) ?_
    refine Ol.x (sp_call en_slices_Backward_L_api_Block_api_Block (fun M w' hh => slices_Backward_Block_ct)) ?_
    rintro _ _ ⟨_, rfl, gS, rfl, rfl⟩
    refine Ol.nil ?_
    refine Cd.block ?_   -- 2
    refine Cd.rf (Own := [blk gS (.cells #[.slice f.bA f.blocks.length f.bC] 36)]) (L0 := [blk g4 (.cells #[.bool false] 4), blk g3 (.cells #[.slice (some ⟨gI, 0, none⟩) n n, .slice (some ⟨gO, 0, none⟩) n n] 102), blk gO (.cells (memA n O) 27), blk gI (.cells (memA n I) 27)] ++ T)
      (fun k L => ∃ (J P : Nat → Nat) (mv : Bool), [blk g4 (.cells #[.bool mv] 4), blk g3 (.cells #[.slice (some ⟨gI, 0, none⟩) n n, .slice (some ⟨gO, 0, none⟩) n n] 102), blk gO (.cells (memA n P) 27), blk gI (.cells (memA n J) 27)] ++ T = L ∧ Liv f J P ∧ (mv = true → muN n J < muN n I) ∧ (mv = false → J = I ∧ ∀ b x, f.blocks.length ≤ b + k → f.blocks[b]? = some x → I b = pre0 x (P b) ∧ ∀ to : Nat, (to : Int) ∈ toL x.term → Sub (I to) (P b)))
      (fun _ _ _ => False) (fun _ h => by cases h) en_slices_Backward_L_api_Block_api_Block_1 (slices_Backward_Block_1_it hf.blocks hfit.blen) (by rw [hT]; exact .refl _) ⟨I, O, false, rfl, hL, (fun h => by cases h), fun _ => ⟨rfl, fun b x hb hx => absurd (List.getElem?_eq_some_iff.1 hx).1 (by omega)⟩⟩ ysR_two rfl ?_ ?_ ?_
    · rintro l H k vs _ hk ⟨J, P, mv, rfl, hJ, hmt, hmf⟩
      obtain ⟨b, x, hb, hx, rfl⟩ := ysR_inv hk
      have hbn : b < n := by omega
      have hle : (b + 1) * 16 ≤ n * 16 := Nat.mul_le_mul_right _ hbn
      have hxm := List.mem_of_getElem? hx
      rw [hT]
      refine Cd.seq ?_
      refine Cd.region ?_
      refine Ol.x (alc zr_int) ?_
      rintro _ _ ⟨g5, rfl, rfl⟩
      refine Ol.s (stv sz_int (i := 0) rfl rfl) ?_
      refine Ol.nil ?_
      refine Cd.region ?_
      refine Ol.x (alc zr_api_Block) ?_
      rintro _ _ ⟨g6, rfl, rfl⟩
      refine Ol.s (stw sz_api_Block rfl x.one (i := 0) rfl rfl) ?_
      refine Ol.nil ?_
      intro H' r hr
      refine Cd.block ?_   -- 3
      refine Cd.mid (fun σ' L' => ∃ O2, Has σ' [(1, .pointer (some ⟨g1, 0, none⟩)), (2, .pointer (some ⟨g2, 0, none⟩)), (3, .pointer (some ⟨g3, 0, none⟩)), (4, .pointer (some ⟨g4, 0, none⟩)), (5, .pointer (some ⟨g5, 0, none⟩)), (6, .pointer (some ⟨g6, 0, none⟩))] ∧ [blk g6 (.cells x.cells.toArray 66), blk g5 (.cells #[.int .i64 (b : Int)] 3), blk g4 (.cells #[.bool mv] 4), blk g3 (.cells #[.slice (some ⟨gI, 0, none⟩) n n, .slice (some ⟨gO, 0, none⟩) n n] 102), blk gO (.cells (memA n O2) 27), blk gI (.cells (memA n J) 27)] ++ T = L' ∧ Liv f J O2 ∧ (∀ c, c ≠ b → O2 c = P c) ∧ ∀ to : Nat, (to : Int) ∈ toL x.term → Sub (J to) (O2 b)) ?_ ?_
      · refine Cd.seq ?_
        refine Cd.region ?_
        refine Ol.p (fdl fd_api_Block_1) ?_
        refine Ol.p (ldp (k := 0 + 1) (vs := x.term.cells.toArray) ag_api_Term (i := 0) rfl rfl (fun j u hu => by rw [Nat.zero_add, Nat.add_comm]; simpa [RBlk.cells] using hu)) ?_
        refine Ol.x (sp_call en_ir_To (fun M w' hh => ir_To_ct (t := x.term))) ?_
        rintro _ _ ⟨_, rfl, A29, c29, rfl, rfl⟩
        refine Ol.p (lens sl_L_int) ?_
        refine Ol.p mvi ?_
        refine Ol.nil ?_
        have htb := hto b x hx
        obtain ⟨to, hto2⟩ : ∃ to, to = toL x.term := ⟨_, rfl⟩
        have htoL := toL_len x.term
        rw [← hto2] at htoL htb ⊢
        refine Cd.block ?_   -- 4
        refine Cd.loop (fun m σ L => ∃ (j : Nat) (O2 : Nat → Nat), m = to.length - j ∧ j ≤ to.length ∧ Has σ [(1, .pointer (some ⟨g1, 0, none⟩)), (2, .pointer (some ⟨g2, 0, none⟩)), (3, .pointer (some ⟨g3, 0, none⟩)), (4, .pointer (some ⟨g4, 0, none⟩)), (5, .pointer (some ⟨g5, 0, none⟩)), (6, .pointer (some ⟨g6, 0, none⟩)), (29, .slice A29 to.length c29), (30, .int .i64 to.length), (31, .int .i64 j)] ∧ [row (.slice A29 to.length c29) 3 1 to.length (ints to), blk g6 (.cells x.cells.toArray 66), blk g5 (.cells #[.int .i64 (b : Int)] 3), blk g4 (.cells #[.bool mv] 4), blk g3 (.cells #[.slice (some ⟨gI, 0, none⟩) n n, .slice (some ⟨gO, 0, none⟩) n n] 102), blk gO (.cells (memA n O2) 27), blk gI (.cells (memA n J) 27)] ++ T = L ∧ Liv f J O2 ∧ (∀ c, c ≠ b → O2 c = P c) ∧ ∀ m ∈ to.take j, Sub (J m.toNat) (O2 b)) (n := to.length) ⟨0, P, rfl, Nat.zero_le _, ⟨rfl, rfl, rfl, rfl, rfl, rfl, rfl, rfl, rfl, trivial⟩, by rw [hT]; rfl, hJ, fun _ _ => rfl, by simp⟩ ?_
        clear hs
        rintro _ σ L ⟨j, O2, rfl, hj, hs, rfl, hJ2, hP2, hsub⟩
        refine Cd.has hs ?_
        refine Cd.seq ?_
        rw [hT]
        refine Cd.region ?_
        refine Ol.p lsi ?_
        refine Ol.nil ?_
        refine Cd.seq ?_
        refine Cd.cond rfl (fun h => ?_) (fun h => ?_)   -- $32
        · have hjl : j < to.length := by
            simp only [decide_eq_true_eq] at h; omega
          obtain ⟨m, hm⟩ : ∃ m, to[j]? = some m := ⟨_, List.getElem?_eq_getElem hjl⟩
          have hmm := List.mem_of_getElem? hm
          have hmr := htb m hmm
          obtain ⟨q, rfl⟩ : ∃ q : Nat, m = (q : Int) := ⟨m.toNat, by omega⟩
          have hqn : q < n := by omega
          refine Cd.skip ?_
          refine Cd.seq ?_
          refine Cd.block ?_   -- 5
          refine Cd.seq ?_
          refine Cd.region ?_
          refine Ol.p (ixn1 (ix := j) sl_L_int (Som.row (i := 0) rfl (by omega))) ?_
          refine Ol.p (ld one_int (Rd.row (i := 0) rfl (ints_at hm))) ?_
          refine Ol.p asi ?_
          refine Ol.nil ?_
          refine Cd.draw mixed 15 (fun opNo => match opNo with | 13 => some (Is (.agg (enc (O2 b ||| J q)))) | _ => none) (fun _ => []) (by kernel_rfl) (by intro q V h; split at h <;> cases h; exact ⟨_, [], rfl, rfl⟩) (fun u hu => ?_)
          refine Wk.p (fdl fd_live_flow_1) ?_
          refine Wk.p (ld one_L_bits_Set (Rd.blk (i := 4) rfl rfl)) ?_
          refine Wk.p (ldv one_int (i := 2) rfl) ?_
          refine Wk.p (fdl fd_live_flow_1) ?_
          refine Wk.p (ld one_L_bits_Set (Rd.blk (i := 4) rfl rfl)) ?_
          refine Wk.p (ldv one_int (i := 2) rfl) ?_
          refine Wk.p (ixm (ix := b) sl_L_bits_Set) ?_
          refine Wk.p (ldp (k := b * 16) (vs := enc (O2 b)) ag_bits_Set (i := 5) rfl (enc_size _) (memA_load hbn)) ?_
          refine Wk.p (fdl fd_live_flow_0) ?_
          refine Wk.p (ld one_L_bits_Set (Rd.blk (i := 4) rfl rfl)) ?_
          refine Wk.p mvi ?_
          refine Wk.p (ixm (ix := q) sl_L_bits_Set) ?_
          refine Wk.p (ldp (k := q * 16) (vs := enc (J q)) ag_bits_Set (i := 6) rfl (enc_size _) (memA_load hqn)) ?_
          refine Wk.x (V := Is (.agg (enc (O2 b ||| J q)))) hu (sp_call en_bits_Set_Or (fun M w' hh => bits_Set_Or_ct)) ?_
          rintro _ _ hu13 ⟨rfl, rfl⟩
          refine Wk.p (ixm (ix := b) sl_L_bits_Set) ?_
          refine Wk.nil ?_
          rw [needs_cons hu13, needs_none]
          refine Ol.s (sta (k := b * 16) sz_bits_Set (enc_size _) (encF_one _) (i := 5) rfl (by rw [memA_size]; omega)) ?_
          refine Ol.nil ?_
          refine Cd.region ?_
          refine Ol.p addi ?_
          refine Ol.p mvi ?_
          refine Ol.nil ?_
          refine ⟨to.length - (j + 1), by omega, j + 1, setN O2 b (O2 b ||| J q), rfl, by omega, ⟨rfl, rfl, rfl, rfl, rfl, rfl, rfl, rfl, rfl, trivial⟩, ?_, hJ2.edge hx (by rw [← hto2]; exact hmm), fun c hc => ?_, fun m hm2 => ?_⟩
          · rw [← memA_sta hbn]; rfl
          · rw [setN_other hc]; exact hP2 c hc
          · rw [setN_same]
            rw [take_snoc_ hm] at hm2
            rcases List.mem_append.1 hm2 with h3 | h3
            · intro v hv
              rw [Nat.testBit_or, hsub m h3 v hv]; rfl
            · have e : m = (q : Int) := by simpa using h3
              subst e
              rw [Int.toNat_natCast]
              intro v hv
              rw [Nat.testBit_or, hv, Bool.or_true]
        have hj2 : j = to.length := by
          simp only [decide_eq_false_iff_not] at h; omega
        subst hj2
        rw [List.take_length] at hsub
        refine Cd.keep (.sub (.cons _ (List.Sublist.refl _))) ?_
        refine Cd.exit (id := 4) ?_
        exact ⟨O2, ⟨rfl, rfl, rfl, rfl, rfl, rfl, trivial⟩, rfl, hJ2, hP2, fun t ht => by
          have := hsub (t : Int) ht
          rwa [Int.toNat_natCast] at this⟩
      rintro σ' _ ⟨O2, hs', rfl, hJ2, hP2, hsub⟩
      refine Cd.has hs' ?_
      clear hs'
      rw [hT]
      refine Cd.seq ?_
      refine Cd.region ?_
      refine Ol.p (fdl fd_live_flow_0) ?_
      refine Ol.p (ld one_L_bits_Set (Rd.blk (i := 3) rfl rfl)) ?_
      refine Ol.p (ldv one_int (i := 1) rfl) ?_
      refine Ol.p (ixm (ix := b) sl_L_bits_Set) ?_
      refine Ol.p (ldp (k := b * 16) (vs := enc (J b)) ag_bits_Set (i := 5) rfl (enc_size _) (memA_load hbn)) ?_
      refine Ol.x (alc zr_bits_Set) ?_
      rintro _ _ ⟨g9, rfl, rfl⟩
      refine Ol.s (stw sz_bits_Set (enc_size _) (encF_one _) (i := 0) rfl rfl) ?_
      refine Ol.nil ?_
      refine Cd.mid (fun σ' L' => Has σ' [(1, .pointer (some ⟨g1, 0, none⟩)), (2, .pointer (some ⟨g2, 0, none⟩)), (3, .pointer (some ⟨g3, 0, none⟩)), (4, .pointer (some ⟨g4, 0, none⟩)), (5, .pointer (some ⟨g5, 0, none⟩)), (9, .pointer (some ⟨g9, 0, none⟩))] ∧ [blk g9 (.cells (enc (J b)) 27), blk g6 (.cells x.cells.toArray 66), blk g5 (.cells #[.int .i64 (b : Int)] 3), blk g4 (.cells #[.bool mv] 4), blk g3 (.cells #[.slice (some ⟨gI, 0, none⟩) n n, .slice (some ⟨gO, 0, none⟩) n n] 102), blk gO (.cells (memA n O2) 27), blk gI (.cells (memA n (setN J b (pre0 x (O2 b)))) 27)] ++ T = L') ?_ ?_
      · refine Cd.seq ?_
        refine Cd.draw mixed 7 (fun opNo => match opNo with | 6 => some (fun v R => ∃ gA gB, v = PointsV gA gB ∧ R = [blk gA (.cells (enc (O2 b)) 27), blk gB (.cells x.cells.toArray 66)]) | _ => none) (fun _ => []) (by kernel_rfl) (by intro q V h; split at h <;> cases h; exact ⟨_, _, 0, 0, rfl, rfl⟩) (fun u hu => ?_)
        refine Wk.p (ldw ag_api_Block (i := 1) rfl rfl) ?_
        refine Wk.p (fdl fd_live_flow_1) ?_
        refine Wk.p (ld one_L_bits_Set (Rd.blk (i := 4) rfl rfl)) ?_
        refine Wk.p (ldv one_int (i := 2) rfl) ?_
        refine Wk.p (ixm (ix := b) sl_L_bits_Set) ?_
        refine Wk.p (ldp (k := b * 16) (vs := enc (O2 b)) ag_bits_Set (i := 5) rfl (enc_size _) (memA_load hbn)) ?_
        refine Wk.x (V := fun v R => ∃ gA gB, v = PointsV gA gB ∧ R = [blk gA (.cells (enc (O2 b)) 27), blk gB (.cells x.cells.toArray 66)]) hu (sp_call en_live_points (fun M w' hh => live_points_ct (b := x) (out := O2 b))) ?_
        rintro _ _ hu6 ⟨gA, gB, rfl, rfl⟩
        refine Wk.nil ?_
        rw [needs_cons hu6, needs_none]
        refine Ol.nil ?_
        refine Cd.block ?_   -- 6
        refine Cd.rf (Own := [blk gA (.cells (enc (O2 b)) 27), blk gB (.cells x.cells.toArray 66)]) (L0 := [blk g9 (.cells (enc (J b)) 27), blk g6 (.cells x.cells.toArray 66), blk g5 (.cells #[.int .i64 (b : Int)] 3), blk g4 (.cells #[.bool mv] 4), blk g3 (.cells #[.slice (some ⟨gI, 0, none⟩) n n, .slice (some ⟨gO, 0, none⟩) n n] 102), blk gO (.cells (memA n O2) 27), blk gI (.cells (memA n (setN J b (J b))) 27)] ++ T)
          (fun k L => ∃ s, [blk g9 (.cells (enc (J b)) 27), blk g6 (.cells x.cells.toArray 66), blk g5 (.cells #[.int .i64 (b : Int)] 3), blk g4 (.cells #[.bool mv] 4), blk g3 (.cells #[.slice (some ⟨gI, 0, none⟩) n n, .slice (some ⟨gO, 0, none⟩) n n] 102), blk gO (.cells (memA n O2) 27), blk gI (.cells (memA n (setN J b s)) 27)] ++ T = L ∧ ∀ q, x.ins.length + 1 = q + k → 0 < k → s = ptAt x.ins (endS x (O2 b)) q)
          (fun _ _ _ => False) (fun l0 e => by cases e; exact ⟨r, hr⟩) en_live_points_1 (live_points_1_it (hf.blkIn hfit hxm)) (by rw [setN_id, hT]; exact .refl _) ⟨J b, rfl, fun q _ h0 => by omega⟩ ysP_two rfl ?_ ?_ ?_
        · rintro l2 H2 k2 vs2 _ hk2 ⟨s, rfl, hsq⟩
          obtain ⟨q, hq, rfl⟩ := ysP_inv hk2
          rw [hT]
          refine Cd.region ?_
          refine Ol.x (alc zr_bits_Set) ?_
          rintro _ _ ⟨g11, rfl, rfl⟩
          refine Ol.s (stw sz_bits_Set (enc_size _) (encF_one _) (i := 0) rfl rfl) ?_
          refine Ol.nil ?_
          intro H3 r3 hr3
          refine Cd.block ?_   -- 7
          refine Cd.region ?_
          refine Ol.p (fdl fd_live_flow_0) ?_
          refine Ol.p (ld one_L_bits_Set (Rd.blk (i := 5) rfl rfl)) ?_
          refine Ol.p (ldv one_int (i := 3) rfl) ?_
          refine Ol.p (ldw ag_bits_Set (i := 0) rfl (enc_size _)) ?_
          refine Ol.p (ixm (ix := b) sl_L_bits_Set) ?_
          refine Ol.s (sta (k := b * 16) sz_bits_Set (enc_size _) (encF_one _) (i := 7) rfl (by rw [memA_size]; omega)) ?_
          refine Ol.keep (.sub (.cons _ (List.Sublist.refl _))) ?_
          refine Ol.nil ?_
          refine ⟨ptAt x.ins (endS x (O2 b)) q, ?_, fun q' hq' _ => by rw [show q' = q by omega]⟩
          rw [← setN_twice J b s, ← memA_sta hbn]; rfl
        · rintro L' ⟨s, rfl, hsq⟩
          rw [ysP_len] at hsq
          have hs0 : s = pre0 x (O2 b) := hsq 0 (by omega) (by omega)
          subst hs0
          exact ⟨⟨rfl, rfl, rfl, rfl, rfl, rfl, trivial⟩, by rw [hT]⟩
        · rintro k c L' h
          exact h.elim
      rintro σ' _ ⟨hs', rfl⟩
      refine Cd.has hs' ?_
      rw [hT]
      have hld := memA_load (I := setN J b (pre0 x (O2 b))) hbn
      rw [setN_same] at hld
      have hbeg := hJ2.begin hx
      have hmove : J b ≠ pre0 x (O2 b) → muN n (setN J b (pre0 x (O2 b))) < muN n J := fun hne => hJ2.moves hx hbn hne
      have hstay : J b = pre0 x (O2 b) → setN J b (pre0 x (O2 b)) = J := fun he => by rw [← he, setN_id]
      cases hmv : mv with
      | true =>
        refine Cd.draw mixed 10 (fun _ => none) (fun _ => []) (by kernel_rfl) (fun _ _ h => by cases h) (fun u hu => ?_)
        refine Wk.p (ldv one_bool (i := 3) rfl) ?_
        refine Wk.p mvb ?_
        refine Wk.gn rfl ?_
        refine Wk.gn rfl ?_
        refine Wk.gn rfl ?_
        refine Wk.gn rfl ?_
        refine Wk.gn rfl ?_
        refine Wk.gn rfl ?_
        refine Wk.gn rfl ?_
        refine Wk.p (pkTb rfl) ?_
        refine Wk.nil ?_
        refine Ol.s (stv sz_bool (i := 3) rfl rfl) ?_
        refine Ol.keep (.sub (.cons _ (.cons _ (.cons _ (List.Sublist.refl _))))) ?_
        refine Ol.nil ?_
        refine ⟨setN J b (pre0 x (O2 b)), O2, true, rfl, hbeg, fun _ => ?_, fun h => (by cases h)⟩
        have h1 := hmt hmv
        by_cases he : J b = pre0 x (O2 b)
        · rw [hstay he]; exact h1
        · have := hmove he; omega
      | false =>
        obtain ⟨hJI, hdone⟩ := hmf hmv
        refine Cd.draw mixed 10 (fun _ => none) (fun _ => []) (by kernel_rfl) (fun _ _ h => by cases h) (fun u hu => ?_)
        refine Wk.p (ldv one_bool (i := 3) rfl) ?_
        refine Wk.p mvb ?_
        refine Wk.gp rfl (fdl fd_live_flow_0) ?_
        refine Wk.gp rfl (ld one_L_bits_Set (Rd.blk (i := 4) rfl rfl)) ?_
        refine Wk.gp rfl (ldv one_int (i := 2) rfl) ?_
        refine Wk.gp rfl (ixm (ix := b) sl_L_bits_Set) ?_
        refine Wk.gp rfl (ldp (k := b * 16) (vs := enc (pre0 x (O2 b))) ag_bits_Set (i := 6) rfl (enc_size _) hld) ?_
        refine Wk.gp rfl (ldw ag_bits_Set (i := 0) rfl (enc_size _)) ?_
        refine Wk.gp rfl (nea cm_bits_Set (enc_size _) (enc_size _) encF_tell (enc_iff (pre0_sm (hJ2.so b)) (hJ2.si b))) ?_
        refine Wk.p (pkFb rfl) ?_
        refine Wk.nil ?_
        refine Ol.s (stv sz_bool (i := 3) rfl rfl) ?_
        refine Ol.keep (.sub (.cons _ (.cons _ (.cons _ (List.Sublist.refl _))))) ?_
        refine Ol.nil ?_
        refine ⟨setN J b (pre0 x (O2 b)), O2, !decide (pre0 x (O2 b) = J b), rfl, hbeg, fun h => ?_, fun h => ?_⟩
        · have hne : ¬ pre0 x (O2 b) = J b := by simpa using h
          have := hmove fun e => hne e.symm
          rw [← hJI]; exact this
        · have he : pre0 x (O2 b) = J b := by simpa using h
          refine ⟨(hstay he.symm).trans hJI, fun c y hc hy => ?_⟩
          by_cases e : c = b
          · subst e
            rw [hx] at hy
            cases hy
            rw [← hJI]
            exact ⟨he.symm, hsub⟩
          · have hcl := (List.getElem?_eq_some_iff.1 hy).1
            rw [hP2 c e]
            exact hdone c y (by omega) hy
    · rintro L' ⟨J, P, mv, rfl, hJ, hmt, hmf⟩
      rw [ysR_len] at hmf
      rw [hT]
      refine Cd.seq ?_
      refine Cd.region ?_
      refine Ol.p (ldv one_bool (i := 0) rfl) ?_
      refine Ol.nil ?_
      refine Cd.region ?_
      refine Ol.x (alc zr_bool) ?_
      rintro _ _ ⟨g4, rfl, rfl⟩
      refine Ol.s (stv sz_bool (i := 0) rfl rfl) ?_
      refine Ol.keep (.sub (.cons_cons _ (.cons _ (List.Sublist.refl _)))) ?_
      refine Ol.nil ?_
      refine ⟨muN n J + (if mv = true then 1 else 0), ?_, J, P, mv, _, rfl, hJ, fun h b x hb => ?_, ⟨rfl, rfl, rfl, rfl, trivial⟩, rfl⟩
      · cases hmv : mv with
        | true => have := hmt hmv; simp only [if_true]; omega
        | false => rw [(hmf hmv).1]; simp
      · obtain ⟨h1, h2⟩ := hmf h
        rw [h1]
        exact h2 b x (by omega) hb
    · rintro k c L' h
      exact h.elim
  have hfin := hL.fin (hst h)
  refine Cd.exit (id := 0) ?_
  refine Cd.seq ?_
  refine Cd.region ?_
  refine Ol.p (ldw ag_live_flow (i := 1) rfl rfl) ?_
  refine Ol.s (stw (vs := #[.slice (some ⟨gI, 0, none⟩) n n, .slice (some ⟨gO, 0, none⟩) n n]) sz_live_flow rfl (by intro u hu; simp at hu; rcases hu with rfl | rfl <;> rfl) (i := 4) rfl rfl) ?_
  refine Ol.nil ?_
  exact Cd.ret ⟨.agg _, retc rfl ag_live_flow rfl (i := 4) rfl rfl, _, .sub (.cons _ (.cons _ (.cons_cons _ (.cons_cons _ (.cons _ (.cons _ .slnil)))))), gI, gO, I, O, rfl, rfl, hL.si, hL.so, hfin.1, hfin.2⟩
end
end Go.Proofs.YtbcnejobnmljlaaDoor

/- How many numbers a word has: the sums of its fields. Plain Lean. -/
namespace Go.Proofs.YtbcnejobnmljlaaDoor
set_option linter.unusedVariables false

def num (b : Nat) : List Nat → Nat
  | [] => 0
  | d :: ds => d + b * num b ds
def evens : List Nat → List Nat
  | d :: _ :: ds => d :: evens ds
  | [d] => [d]
  | [] => []
def pairs : List Nat → List Nat
  | d :: e :: ds => (e + d) :: pairs ds
  | [d] => [d]
  | [] => []
def maskN (m : Nat) : Nat → Nat
  | 0 => 0
  | n + 1 => (2 ^ m - 1) + 2 ^ m * (2 ^ m * maskN m n)
theorem and_low {m R M d e : Nat} (hd : d < 2 ^ m) (he : e < 2 ^ m) : (d + 2 ^ m * (e + 2 ^ m * R)) &&& ((2 ^ m - 1) + 2 ^ m * (2 ^ m * M)) = d + 2 ^ m * (2 ^ m * (R &&& M)) := by
  have hp : 0 < 2 ^ m := Nat.pow_pos (by decide)
  apply Nat.eq_of_testBit_eq
  intro j
  rw [Nat.testBit_and, Nat.add_comm d, Nat.add_comm (2 ^ m - 1), Nat.add_comm d]
  rw [Nat.testBit_two_pow_mul_add _ hd, Nat.testBit_two_pow_mul_add _ (by omega : 2 ^ m - 1 < 2 ^ m), Nat.testBit_two_pow_mul_add _ hd]
  by_cases h : j < m
  · simp [h]
  · simp only [if_neg h]
    rw [Nat.add_comm e, Nat.testBit_two_pow_mul_add _ he]
    have e1 : (2 ^ m * M).testBit (j - m) = if j - m < m then (0 : Nat).testBit (j - m) else M.testBit (j - m - m) := by
      have := Nat.testBit_two_pow_mul_add M hp (j - m)
      simpa using this
    have e2 : (2 ^ m * (R &&& M)).testBit (j - m) = if j - m < m then (0 : Nat).testBit (j - m) else (R &&& M).testBit (j - m - m) := by
      have := Nat.testBit_two_pow_mul_add (R &&& M) hp (j - m)
      simpa using this
    rw [e1, e2]
    by_cases h2 : j - m < m
    · simp [h2]
    · simp [h2, Nat.testBit_and]
theorem num_mask {m : Nat} : ∀ (n : Nat) (ds : List Nat), ds.length = 2 * n → (∀ d ∈ ds, d < 2 ^ m) → num (2 ^ m) ds &&& maskN m n = num (2 ^ m * 2 ^ m) (evens ds)
  | 0, ds, h, _ => by
    have : ds = [] := List.eq_nil_of_length_eq_zero (by omega)
    subst this; simp [num, evens, maskN]
  | n + 1, [], h, _ => by simp at h
  | n + 1, [d], h, _ => by simp at h; omega
  | n + 1, d :: e :: ds, h, hd => by
    have ih := num_mask (m := m) n ds (by simp at h; omega) (fun x hx => hd x (by simp [hx]))
    show (d + 2 ^ m * (e + 2 ^ m * num (2 ^ m) ds)) &&& ((2 ^ m - 1) + 2 ^ m * (2 ^ m * maskN m n)) = d + 2 ^ m * 2 ^ m * num (2 ^ m * 2 ^ m) (evens ds)
    rw [and_low (hd d (by simp)) (hd e (by simp)), ih, Nat.mul_assoc]
theorem num_add {b : Nat} : ∀ (xs ys : List Nat), xs.length = ys.length → num b xs + num b ys = num b (List.zipWith (· + ·) xs ys)
  | [], [], _ => rfl
  | x :: xs, y :: ys, h => by
    have ih := num_add (b := b) xs ys (by simpa using h)
    simp only [num, List.zipWith_cons_cons, ← ih, Nat.mul_add]
    omega
theorem num_div {b d : Nat} {ds : List Nat} (hb : 0 < b) (hd : d < b) : num b (d :: ds) / b = num b ds := by
  rw [num, Nat.add_mul_div_left _ _ hb, Nat.div_eq_of_lt hd, Nat.zero_add]
theorem num_zero (b : Nat) (xs : List Nat) : num b (xs ++ [0]) = num b xs := by
  induction xs with
  | nil => simp [num]
  | cons x xs ih => simp [num, ih]
theorem evens_len : ∀ (n : Nat) (ds : List Nat), ds.length = 2 * n → (evens ds).length = n
  | 0, ds, h => by
    have : ds = [] := List.eq_nil_of_length_eq_zero (by omega)
    subst this; rfl
  | n + 1, [], h => by simp at h
  | n + 1, [d], h => by simp at h; omega
  | n + 1, d :: e :: ds, h => by simp [evens, evens_len n ds (by simp at h; omega)]
theorem pairs_len : ∀ (n : Nat) (ds : List Nat), ds.length = 2 * n → (pairs ds).length = n
  | 0, ds, h => by
    have : ds = [] := List.eq_nil_of_length_eq_zero (by omega)
    subst this; rfl
  | n + 1, [], h => by simp at h
  | n + 1, [d], h => by simp at h; omega
  | n + 1, d :: e :: ds, h => by simp [pairs, pairs_len n ds (by simp at h; omega)]
theorem pairs_sum : ∀ ds : List Nat, (pairs ds).sum = ds.sum
  | [] => rfl
  | [d] => rfl
  | d :: e :: ds => by simp [pairs, pairs_sum ds]; omega
theorem pairs_le {c : Nat} : ∀ ds : List Nat, (∀ d ∈ ds, d ≤ c) → ∀ d ∈ pairs ds, d ≤ 2 * c
  | [], _ => by simp [pairs]
  | [d], h => by intro x hx; have := h x (by simpa [pairs] using hx); omega
  | d :: e :: ds, h => by
    intro x hx
    simp only [pairs, List.mem_cons] at hx
    rcases hx with rfl | hx
    · have h1 := h d (by simp); have h2 := h e (by simp); omega
    · exact pairs_le ds (fun y hy => h y (by simp [hy])) x hx
/-- The odd places, and the even ones: their sums. -/
theorem zip_evens : ∀ (n : Nat) (d : Nat) (ds : List Nat), (d :: ds).length = 2 * n → List.zipWith (· + ·) (evens (ds ++ [0])) (evens (d :: ds)) = pairs (d :: ds)
  | 0, d, ds, h => by simp at h
  | n + 1, d, [], h => by simp at h; omega
  | n + 1, d, [e], h => by simp [evens, pairs]
  | n + 1, d, e :: f :: ds, h => by
    have ih := zip_evens n f ds (by simp at h ⊢; omega)
    cases ds with
    | nil => exact absurd h (by simp; omega)
    | cons g ds =>
      simp only [List.cons_append, evens, List.zipWith_cons_cons, pairs] at ih ⊢
      rw [ih]
theorem num_pairs {m n : Nat} {ds : List Nat} (hm : 0 < m) (hl : ds.length = 2 * n) (hn : 0 < n) (hd : ∀ d ∈ ds, d < 2 ^ m) :
    ((num (2 ^ m) ds / 2 ^ m) &&& maskN m n) + (num (2 ^ m) ds &&& maskN m n) = num (2 ^ m * 2 ^ m) (pairs ds) := by
  cases ds with
  | nil => simp at hl; omega
  | cons d ds =>
    have hp : 0 < 2 ^ m := Nat.pow_pos (by decide)
    rw [num_div hp (hd d (by simp)), ← num_zero (2 ^ m) ds, num_mask n (ds ++ [0]) (by simp at hl ⊢; omega) (fun x hx => by
      rcases List.mem_append.1 hx with hx | hx
      · exact hd x (by simp [hx])
      · simp at hx; omega), num_mask n (d :: ds) hl hd, num_add _ _ (by rw [evens_len n _ (by simp at hl ⊢; omega), evens_len n _ hl]), zip_evens n d ds hl]
theorem num_lt {b : Nat} : ∀ ds : List Nat, (∀ d ∈ ds, d < b) → num b ds < b ^ ds.length
  | [], _ => by simp [num]
  | d :: ds, h => by
    have ih := num_lt ds (fun x hx => h x (by simp [hx]))
    have hd := h d (by simp)
    rw [num, List.length_cons, Nat.pow_succ]
    have : b * num b ds + b ≤ b * b ^ ds.length := by rw [← Nat.mul_succ]; exact Nat.mul_le_mul_left _ ih
    rw [Nat.mul_comm (b ^ ds.length)]
    omega
/-- The bits of a word, as digits. -/
def bitsR : Nat → Nat → List Nat
  | _, 0 => []
  | w, n + 1 => w % 2 :: bitsR (w / 2) n
theorem bitsR_len : ∀ (w n : Nat), (bitsR w n).length = n
  | _, 0 => rfl
  | w, n + 1 => by simp [bitsR, bitsR_len]
theorem bitsR_le : ∀ (w n : Nat), ∀ d ∈ bitsR w n, d ≤ 1
  | _, 0 => by simp [bitsR]
  | w, n + 1 => by
    intro d hd
    simp only [bitsR, List.mem_cons] at hd
    rcases hd with rfl | hd
    · omega
    · exact bitsR_le _ _ d hd
theorem bitsR_num : ∀ (n w : Nat), w < 2 ^ n → num 2 (bitsR w n) = w
  | 0, w, h => by simp at h; simp [bitsR, num, h]
  | n + 1, w, h => by
    rw [bitsR, num, bitsR_num n (w / 2) (by rw [Nat.pow_succ] at h; omega)]
    omega
theorem bitsR_sum : ∀ (n w : Nat), (bitsR w n).sum = (upto w n).length
  | 0, w => by simp [bitsR, upto]
  | n + 1, w => by
    rw [bitsR, List.sum_cons, bitsR_sum n (w / 2)]
    unfold upto
    rw [List.range_succ_eq_map, List.filter_cons, List.filter_map]
    have e : (w.testBit ∘ Nat.succ) = (w / 2).testBit := by
      funext i
      simp [Nat.testBit_succ]
    have e0 : w.testBit 0 = decide (w % 2 = 1) := by rw [Nat.testBit_zero]
    simp only [e]
    by_cases h : w % 2 = 1
    · have : w.testBit 0 = true := by rw [e0]; simp [h]
      simp [this, h]; omega
    · have h0 : w % 2 = 0 := by omega
      have : w.testBit 0 = false := by rw [e0]; simp [h0]
      simp [this, h0]
theorem mask1 : maskN 1 32 = 6148914691236517205 := by decide
theorem mask2 : maskN 2 16 = 3689348814741910323 := by decide
theorem mask4 : maskN 4 8 = 1085102592571150095 := by decide
/-- The third step: the fields' sums fit their places. -/
theorem num_pairs4 {ds : List Nat} (hl : ds.length = 16) (hd : ∀ d ∈ ds, d ≤ 4) : (num 16 ds / 16 + num 16 ds) &&& maskN 4 8 = num 256 (pairs ds) := by
  cases ds with
  | nil => simp at hl
  | cons d ds =>
    have h16 : ∀ x ∈ d :: ds, x < 16 := fun x hx => by have := hd x hx; omega
    rw [num_div (by decide) (h16 d (by simp)), ← num_zero 16 ds, num_add _ _ (by simp)]
    have hb : ∀ x ∈ List.zipWith (· + ·) (ds ++ [0]) (d :: ds), x < 2 ^ 4 := by
      intro x hx
      obtain ⟨i, hi, rfl⟩ := List.getElem_of_mem hx
      rw [List.getElem_zipWith]
      have h1 : (ds ++ [0])[i]'(by simp at hi ⊢; omega) ≤ 4 := by
        have := List.getElem_mem (l := ds ++ [0]) (n := i) (by simp at hi ⊢; omega)
        rcases List.mem_append.1 this with h | h
        · exact hd _ (by simp [h])
        · simp at h; omega
      have h2 := hd _ (List.getElem_mem (l := d :: ds) (n := i) (by simp at hi ⊢; omega))
      omega
    have hlen : (List.zipWith (· + ·) (ds ++ [0]) (d :: ds)).length = 2 * 8 := by simp at hl ⊢; omega
    have := num_mask (m := 4) 8 (List.zipWith (· + ·) (ds ++ [0]) (d :: ds)) hlen hb
    rw [show (2 : Nat) ^ 4 = 16 from rfl] at this
    rw [this]
    have e : ∀ (n : Nat) (d : Nat) (ds : List Nat), (d :: ds).length = 2 * n → evens (List.zipWith (· + ·) (ds ++ [0]) (d :: ds)) = pairs (d :: ds) := by
      intro n
      induction n with
      | zero => intro d ds h; simp at h
      | succ n ih =>
        intro d ds h
        match ds, h with
        | [], h => simp at h; omega
        | [e], h => simp [evens, pairs]
        | e :: f :: ds, h =>
          have := ih f ds (by simp at h ⊢; omega)
          simp only [List.cons_append, List.zipWith_cons_cons, evens, pairs]
          rw [this]
    rw [e 8 d ds hl]
theorem num_drop : ∀ (k : Nat) (ds : List Nat), (∀ d ∈ ds, d < 256) → num 256 ds / 256 ^ k = num 256 (ds.drop k)
  | 0, ds, _ => by simp
  | k + 1, [], _ => by simp [num]
  | k + 1, d :: ds, h => by
    rw [Nat.pow_succ, Nat.mul_comm, ← Nat.div_div_eq_div_mul, num_div (by decide) (h d (by simp)), num_drop k ds (fun x hx => h x (by simp [hx])), List.drop_succ_cons]
theorem num_pad (b : Nat) (xs : List Nat) : ∀ k, num b (xs ++ List.replicate k 0) = num b xs
  | 0 => by simp
  | k + 1 => by rw [List.replicate_succ', ← List.append_assoc, num_zero, num_pad b xs k]
theorem num_step {k : Nat} {ds : List Nat} (hl : ds.length = 8) (hk : k ≤ 8) (hd : ∀ d ∈ ds, d ≤ 100) : (num 256 ds + num 256 ds / 256 ^ k) % 2 ^ 64 = num 256 (List.zipWith (· + ·) ds (ds.drop k ++ List.replicate k 0)) := by
  have hlen : (ds.drop k ++ List.replicate k 0).length = 8 := by simp [hl]; omega
  rw [num_drop k ds (fun d h => by have := hd d h; omega), ← num_pad 256 (ds.drop k) k, num_add _ _ (by rw [hl, hlen])]
  refine Nat.mod_eq_of_lt ?_
  have := num_lt (b := 256) (List.zipWith (· + ·) ds (ds.drop k ++ List.replicate k 0)) (by
    intro x hx
    obtain ⟨i, hi, rfl⟩ := List.getElem_of_mem hx
    rw [List.getElem_zipWith]
    have h1 := hd _ (List.getElem_mem (l := ds) (n := i) (by simp at hi; omega))
    have h2 : (ds.drop k ++ List.replicate k 0)[i]'(by simp at hi ⊢; omega) ≤ 100 := by
      have := List.getElem_mem (l := ds.drop k ++ List.replicate k 0) (n := i) (by simp at hi ⊢; omega)
      rcases List.mem_append.1 this with h | h
      · exact hd _ (List.mem_of_mem_drop h)
      · have := List.eq_of_mem_replicate h; omega
    omega)
  rw [List.length_zipWith, hl, hlen] at this
  simpa using this
theorem num_sum8 : ∀ ds : List Nat, ds.length = 8 → (∀ d ∈ ds, d ≤ 8) → oc6 (oc5 (oc4 (num 256 ds))) % 128 = ds.sum
  | [a, b, c, d, e, f, g, h], _, hd => by
    have h1 := hd a (by simp); have h2 := hd b (by simp); have h3 := hd c (by simp); have h4 := hd d (by simp)
    have h5 := hd e (by simp); have h6 := hd f (by simp); have h7 := hd g (by simp); have h8 := hd h (by simp)
    have q4 : oc4 (num 256 [a, b, c, d, e, f, g, h]) = num 256 [a + b, b + c, c + d, d + e, e + f, f + g, g + h, h + 0] :=
      num_step (k := 1) (ds := [a, b, c, d, e, f, g, h]) rfl (by decide) (fun x hx => by have := hd x hx; omega)
    have q5 : oc5 (num 256 [a + b, b + c, c + d, d + e, e + f, f + g, g + h, h + 0]) = num 256 [a + b + (c + d), b + c + (d + e), c + d + (e + f), d + e + (f + g), e + f + (g + h), f + g + (h + 0), g + h + 0, h + 0 + 0] :=
      num_step (k := 2) (ds := [a + b, b + c, c + d, d + e, e + f, f + g, g + h, h + 0]) rfl (by decide) (fun x hx => by simp at hx; omega)
    have q6 : oc6 (num 256 [a + b + (c + d), b + c + (d + e), c + d + (e + f), d + e + (f + g), e + f + (g + h), f + g + (h + 0), g + h + 0, h + 0 + 0]) = num 256 [a + b + (c + d) + (e + f + (g + h)), b + c + (d + e) + (f + g + (h + 0)), c + d + (e + f) + (g + h + 0), d + e + (f + g) + (h + 0 + 0), e + f + (g + h) + 0, f + g + (h + 0) + 0, g + h + 0 + 0, h + 0 + 0 + 0] :=
      num_step (k := 4) (ds := [a + b + (c + d), b + c + (d + e), c + d + (e + f), d + e + (f + g), e + f + (g + h), f + g + (h + 0), g + h + 0, h + 0 + 0]) rfl (by decide) (fun x hx => by simp at hx; omega)
    rw [q4, q5, q6, num]
    simp only [List.sum_cons, List.sum_nil]
    omega
/-- How many: the program's way is right. -/
theorem ocN_eq {w : Nat} (hw : w < 2 ^ 64) : ocN w = (upto w 64).length := by
  have l1 := bitsR_len w 64
  have b1 := bitsR_le w 64
  have e1 : oc1 w = num 4 (pairs (bitsR w 64)) := by
    have := num_pairs (m := 1) (n := 32) (ds := bitsR w 64) (by decide) (by rw [l1]) (by decide) (fun d hd => by have := b1 d hd; omega)
    rw [mask1, show (2 : Nat) ^ 1 = 2 from rfl, bitsR_num 64 w hw] at this
    unfold oc1
    rw [show (2 : Nat) ^ 1 = 2 from rfl, this]
    refine Nat.mod_eq_of_lt ?_
    have := num_lt (b := 4) (pairs (bitsR w 64)) (fun d hd => by have := pairs_le _ b1 d hd; omega)
    rw [pairs_len 32 _ (by rw [l1])] at this
    simpa using this
  have l2 := pairs_len 32 _ (show (bitsR w 64).length = 2 * 32 by rw [l1])
  have b2 := pairs_le _ b1
  have e2 : oc2 (oc1 w) = num 16 (pairs (pairs (bitsR w 64))) := by
    have := num_pairs (m := 2) (n := 16) (ds := pairs (bitsR w 64)) (by decide) (by rw [l2]) (by decide) (fun d hd => by have := b2 d hd; omega)
    rw [mask2, show (2 : Nat) ^ 2 = 4 from rfl] at this
    unfold oc2
    rw [e1, show (2 : Nat) ^ 2 = 4 from rfl, this]
    refine Nat.mod_eq_of_lt ?_
    have := num_lt (b := 16) (pairs (pairs (bitsR w 64))) (fun d hd => by have := pairs_le _ b2 d hd; omega)
    rw [pairs_len 16 _ (by rw [l2])] at this
    simpa using this
  have l3 := pairs_len 16 _ (show (pairs (bitsR w 64)).length = 2 * 16 by rw [l2])
  have b3 := pairs_le _ b2
  have e3 : oc3 (oc2 (oc1 w)) = num 256 (pairs (pairs (pairs (bitsR w 64)))) := by
    have h4 := num_pairs4 (ds := pairs (pairs (bitsR w 64))) (by rw [l3]) (fun d hd => by have := b3 d hd; omega)
    rw [mask4] at h4
    unfold oc3
    rw [e2, show (2 : Nat) ^ 4 = 16 from rfl]
    have hlt := num_lt (b := 16) (pairs (pairs (bitsR w 64))) (fun d hd => by have := b3 d hd; omega)
    rw [l3] at hlt
    have hlt2 : num 16 (pairs (pairs (bitsR w 64))) / 16 + num 16 (pairs (pairs (bitsR w 64))) < 2 ^ 64 := by
      cases hds : pairs (pairs (bitsR w 64)) with
      | nil => rw [hds] at l3; simp at l3
      | cons d ds =>
        have h16 : ∀ x ∈ d :: ds, x < 16 := fun x hx => by have := b3 x (by rw [hds]; exact hx); omega
        rw [num_div (by decide) (h16 d (by simp)), ← num_zero 16 ds, num_add _ _ (by simp)]
        have := num_lt (b := 16) (List.zipWith (· + ·) (ds ++ [0]) (d :: ds)) (by
          intro x hx
          obtain ⟨i, hi, rfl⟩ := List.getElem_of_mem hx
          rw [List.getElem_zipWith]
          have h1 : (ds ++ [0])[i]'(by simp at hi ⊢; omega) ≤ 4 := by
            have := List.getElem_mem (l := ds ++ [0]) (n := i) (by simp at hi ⊢; omega)
            rcases List.mem_append.1 this with h | h
            · have := b3 _ (by rw [hds]; exact List.mem_cons_of_mem _ h); omega
            · simp at h; omega
          have h2 := b3 _ (by rw [hds]; exact List.getElem_mem (l := d :: ds) (n := i) (by simp at hi ⊢; omega))
          omega)
        rw [hds] at l3
        simp only [List.length_zipWith, List.length_append, List.length_cons, List.length_nil] at this l3
        rw [show min (ds.length + (0 + 1)) (ds.length + 1) = 16 by omega] at this
        simpa using this
    rw [Nat.mod_eq_of_lt hlt2]
    exact h4
  have l4 := pairs_len 8 _ (show (pairs (pairs (bitsR w 64))).length = 2 * 8 by rw [l3])
  have b4 := pairs_le _ b3
  unfold ocN
  rw [e3, num_sum8 _ l4 (fun d hd => by have := b4 d hd; omega), pairs_sum, pairs_sum, pairs_sum, bitsR_sum]
theorem upto_add (s n : Nat) : ∀ m, m ≤ 64 → (upto s (64 * n + m)).length = (upto s (64 * n)).length + (upto (wd s n) m).length
  | 0, _ => by simp [upto_zero]
  | m + 1, h => by
    rw [← Nat.add_assoc, upto_succ, upto_succ, List.length_append, List.length_append, upto_add s n m (by omega), testBit_wd]
    have : m < 64 := by omega
    cases s.testBit (64 * n + m) <;> simp [this]
    omega
theorem manyF_eq (s : Nat) : ∀ k, manyF s k = (upto s (64 * k)).length
  | 0 => by simp [manyF, upto_zero]
  | k + 1 => by
    rw [manyF_succ, manyF_eq s k, ocN_eq (wd_lt s k), Nat.mul_succ, upto_add s k 64 (by omega)]
theorem many_list (s : Nat) : manyF s 16 = (listS s).length := manyF_eq s 16
end Go.Proofs.YtbcnejobnmljlaaDoor

