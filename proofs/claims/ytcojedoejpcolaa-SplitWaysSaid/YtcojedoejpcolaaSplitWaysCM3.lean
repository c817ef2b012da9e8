/- Part 3 of the proof of SplitWaysC: the texts IrV, Flow, IrW, IrX, Que, IrR, IrU, IrT, Bare, Perm, Own, RunX, SplitX, Flow2, CountsLaw, Split, Turn, one behind the other. -/
import Derived.ArgAppend
import Derived.Test.YtcojedoejpcolaaSplitWaysCM2
/- Plain laws behind ir.Right: whether all that is read has a value. -/
namespace Go.Proofs.Ytcojedoejpcolaa
set_option linter.unusedVariables false
open Go Go.RowKit

def okPast : List RIns → Tm → VS → Bool
  | [], t, s => hasV s (needsL t)
  | i :: l, t, s => hasV s (readsL i) && okPast l t (putV s (defI i).toNat true)
theorem hasV_iff {s : VS} {l : List Int} : hasV s l = true ↔ ∀ n ∈ l, s n.toNat = true := by
  unfold hasV; rw [List.all_eq_true]
theorem exposed_range : ∀ {l : List RIns} {t : Tm} {v : Int}, exposed l t v = true → 1 ≤ v ∧ v ≤ 200
  | [], t, v, h => by
    have := needsL_mem (t := t) (n := v) (by simpa [exposed] using h)
    omega
  | i :: l, t, v, h => by
    unfold exposed at h
    rw [Bool.or_eq_true] at h
    rcases h with h | h
    · exact readsL_mem (by simpa using h)
    · rw [Bool.and_eq_true] at h
      exact exposed_range h.2
theorem okPast_iff : ∀ {l : List RIns} {t : Tm} {s : VS}, okPast l t s = true ↔ ∀ v : Int, exposed l t v = true → s v.toNat = true
  | [], t, s => by
    unfold okPast
    rw [hasV_iff]
    exact ⟨fun h v hv => h v (by simpa [exposed] using hv), fun h v hv => h v (by simpa [exposed] using hv)⟩
  | i :: l, t, s => by
    unfold okPast
    rw [Bool.and_eq_true, hasV_iff, okPast_iff]
    have hd := defI_range i
    constructor
    · rintro ⟨h1, h2⟩ v hv
      have hr := exposed_range hv
      unfold exposed at hv
      rw [Bool.or_eq_true] at hv
      rcases hv with hv | hv
      · exact h1 v (by simpa using hv)
      · rw [Bool.and_eq_true] at hv
        have hne : defI i ≠ v := by simpa using hv.1
        have := h2 v hv.2
        unfold putV at this
        rwa [if_neg (by omega)] at this
    · intro h
      refine ⟨fun n hn => h n (by unfold exposed; rw [Bool.or_eq_true]; exact .inl (by simpa using hn)), fun v hv => ?_⟩
      have hr := exposed_range hv
      unfold putV
      by_cases e : defI i = v
      · rw [if_pos (by omega)]
      · rw [if_neg (by omega)]
        refine h v ?_
        unfold exposed
        rw [Bool.or_eq_true]
        right
        rw [Bool.and_eq_true]
        exact ⟨by simpa using e, hv⟩
/-- What is in a set behind a block's instructions. -/
def outV (l : List RIns) (s : VS) : VS := l.foldl (fun s i => putV s (defI i).toNat true) s
theorem outV_iff : ∀ {l : List RIns} {s : VS} {v : Nat}, outV l s v = true ↔ s v = true ∨ ∃ i ∈ l, (defI i).toNat = v
  | [], s, v => by simp [outV]
  | i :: l, s, v => by
    show outV l (putV s (defI i).toNat true) v = true ↔ _
    rw [outV_iff]
    have : putV s (defI i).toNat true v = true ↔ s v = true ∨ (defI i).toNat = v := by
      unfold putV
      by_cases e : v = (defI i).toNat
      · rw [if_pos e]; simp [e]
      · rw [if_neg e]
        exact ⟨.inl, fun h => h.elim id fun h => absurd h.symm e⟩
    rw [this]
    simp only [List.mem_cons, exists_eq_or_imp]
    exact or_assoc
theorem outV_snoc {l : List RIns} {k : Nat} {i : RIns} {s : VS} (h : l[k]? = some i) : outV (l.take (k + 1)) s = putV (outV (l.take k) s) (defI i).toNat true := by
  unfold outV
  rw [take_snoc_ h, List.foldl_append]; rfl
/-- A way from the first block to the begin of another, on which a variable gets no value. -/
inductive Bare (f : RFun) (v : Nat) : Nat → Prop
  | zero : (∀ p ∈ f.params, p.toNat ≠ v) → Bare f v 0
  | step {a b : Nat} {x : RBlk} : Bare f v a → f.blocks[a]? = some x → (∀ i ∈ x.ins, (defI i).toNat ≠ v) → (b : Int) ∈ toL x.term → Bare f v b
open Classical in
noncomputable def valuedF (f : RFun) : Bool := decide (∀ (b : Nat) (x : RBlk) (v : Int), f.blocks[b]? = some x → exposed x.ins x.term v = true → ¬ Bare f v.toNat b)
theorem valuedF_iff {f : RFun} : valuedF f = true ↔ ∀ (b : Nat) (x : RBlk) (v : Int), f.blocks[b]? = some x → exposed x.ins x.term v = true → ¬ Bare f v.toNat b := by
  unfold valuedF; exact @decide_eq_true_iff _ (Classical.propDecidable _)
abbrev IV := Nat → VS
def setI (I : IV) (b : Nat) (s : VS) : IV := fun x => if x = b then s else I x
structure Val (f : RFun) (I : IV) : Prop where
  z : ∀ v, v < 201 → (I 0 v = true ↔ ∃ p ∈ f.params, p.toNat = v)
  b : ∀ b v, v < 201 → I b v = false → Bare f v b
theorem Val.turn {f : RFun} {I : IV} {a to : Nat} {x : RBlk} {out : VS} (h : Val f I) (ha : f.blocks[a]? = some x) (ht : (to : Int) ∈ toL x.term) (h0 : to ≠ 0) (ho : ∀ v, v < 201 → out v = false → Bare f v a ∧ ∀ i ∈ x.ins, (defI i).toNat ≠ v) :
    Val f (setI I to fun v => I to v && out v) := by
  refine ⟨fun v hv => ?_, fun b v hv hb => ?_⟩
  · unfold setI; rw [if_neg (fun e => h0 e.symm)]; exact h.z v hv
  · unfold setI at hb
    by_cases e : b = to
    · rw [if_pos e, Bool.and_eq_false_iff] at hb
      rw [e]
      rcases hb with hb | hb
      · exact h.b to v hv hb
      · obtain ⟨h1, h2⟩ := ho v hv hb
        exact .step h1 ha h2 ht
    · rw [if_neg e] at hb
      exact h.b b v hv hb
theorem Val.out {f : RFun} {I : IV} {a : Nat} {x : RBlk} (h : Val f I) : ∀ v, v < 201 → outV x.ins (I a) v = false → Bare f v a ∧ ∀ i ∈ x.ins, (defI i).toNat ≠ v := fun v hv ho => by
  have hn : ¬ (I a v = true ∨ ∃ i ∈ x.ins, (defI i).toNat = v) := fun h2 => by rw [outV_iff.2 h2] at ho; cases ho
  refine ⟨h.b a v hv ?_, fun i hi e => hn (.inr ⟨i, hi, e⟩)⟩
  cases hc : I a v with
  | false => rfl
  | true => exact absurd (.inl hc) hn
/-- Nothing is turned by a block's edge. -/
def Stab (I : IV) (out : VS) (to : Nat) : Prop := ∀ v, v < 201 → I to v = true → out v = true
theorem Val.fin {f : RFun} {I : IV} (h : Val f I) (hs : ∀ (a : Nat) (x : RBlk), f.blocks[a]? = some x → ∀ to : Nat, (to : Int) ∈ toL x.term → Stab I (outV x.ins (I a)) to) {b v : Nat} (hv : v < 201) : I b v = false ↔ Bare f v b := by
  refine ⟨h.b b v hv, fun hb => ?_⟩
  induction hb with
  | zero hp =>
    cases hc : I 0 v with
    | false => rfl
    | true =>
      obtain ⟨p, hp1, hp2⟩ := (h.z v hv).1 hc
      exact absurd hp2 (hp p hp1)
  | @step a b x _ ha hd ht ih =>
    cases hc : I b v with
    | false => rfl
    | true =>
      have := hs a x ha b ht v hv hc
      rw [outV_iff] at this
      rcases this with h1 | ⟨i, hi, h1⟩
      · rw [ih] at h1; cases h1
      · exact absurd h1 (hd i hi)
theorem valued_of {f : RFun} {I : IV} (h : ∀ b v, v < 201 → (I b v = false ↔ Bare f v b)) : valuedF f = (List.range f.blocks.length).all fun b => match f.blocks[b]? with
    | some x => okPast x.ins x.term (I b)
    | none => true := by
  rw [Bool.eq_iff_iff, valuedF_iff, List.all_eq_true]
  constructor
  · intro hv b hb
    have hb : b < f.blocks.length := by simpa using hb
    rw [List.getElem?_eq_getElem hb]
    show okPast _ _ _ = true
    rw [okPast_iff]
    intro v he
    have hr := exposed_range he
    have := hv b _ v (List.getElem?_eq_getElem hb) he
    cases hc : I b v.toNat with
    | true => rfl
    | false => exact absurd ((h b v.toNat (by omega)).1 hc) this
  · intro hv b x v hx he hb
    have hr := exposed_range he
    have h1 := hv b (by simpa using (List.getElem?_eq_some_iff.1 hx).1)
    rw [hx] at h1
    have h2 := okPast_iff.1 h1 v he
    rw [(h b v.toNat (by omega)).2 hb] at h2
    cases h2

/-! ### How much is left -/
theorem cntB_succ (n : Nat) (T : Nat → Bool) : cntB (n + 1) T = cntB n T + (if T n then 1 else 0) := by
  unfold cntB
  rw [List.range_succ, List.filter_append, List.length_append]
  cases hT : T n <;> simp [hT]
theorem cntB_mono {S T : Nat → Bool} : ∀ {n : Nat}, (∀ i, i < n → S i = true → T i = true) → cntB n S ≤ cntB n T
  | 0, _ => by simp [cntB]
  | n + 1, h => by
    rw [cntB_succ, cntB_succ]
    have h1 := cntB_mono (n := n) fun i hi => h i (by omega)
    have h2 := h n (by omega)
    cases hS : S n with
    | false => simp only [Bool.false_eq_true, if_false]; omega
    | true => rw [h2 hS]; simp only [if_true]; omega
theorem cntB_lt {S T : Nat → Bool} {i : Nat} : ∀ {n : Nat}, (∀ i, i < n → S i = true → T i = true) → i < n → S i = false → T i = true → cntB n S < cntB n T
  | 0, _, h, _, _ => by omega
  | n + 1, h, hi, h1, h2 => by
    rw [cntB_succ, cntB_succ]
    by_cases e : i = n
    · subst e
      have h3 := cntB_mono (n := i) fun j hj => h j (by omega)
      rw [h1, h2]; simp only [Bool.false_eq_true, if_false, if_true]; omega
    · have h3 := cntB_lt (n := n) (fun j hj => h j (by omega)) (by omega) h1 h2
      have h4 := h n (by omega)
      cases hS : S n with
      | false => simp only [Bool.false_eq_true, if_false]; omega
      | true => rw [h4 hS]; simp only [if_true]; omega
def muI (n : Nat) (I : IV) : Nat := ((List.range n).map fun b => cntB 201 (I b)).sum
theorem muI_set {I : IV} {to : Nat} {s : VS} : ∀ {n : Nat}, to < n → cntB 201 s < cntB 201 (I to) → muI n (setI I to s) < muI n I
  | 0, h, _ => by omega
  | n + 1, h, h2 => by
    have hs : ∀ J : IV, muI (n + 1) J = muI n J + cntB 201 (J n) := fun J => by unfold muI; rw [List.range_succ, List.map_append, List.sum_append]; simp
    rw [hs, hs]
    by_cases e : to = n
    · subst e
      have h3 : muI to (setI I to s) = muI to I := by
        unfold muI
        congr 1
        apply List.map_congr_left
        intro b hb
        have : b < to := by simpa using hb
        unfold setI; rw [if_neg (by omega)]
      have h4 : setI I to s to = s := by unfold setI; rw [if_pos rfl]
      rw [h3, h4]; omega
    · have h3 := muI_set (I := I) (s := s) (n := n) (by omega) h2
      have h4 : setI I to s n = I n := by unfold setI; rw [if_neg (fun e2 => e e2.symm)]
      rw [h4]; omega
theorem setI_self {I : IV} {b : Nat} {s : VS} (h : ∀ v, v < 201 → s v = I b v) (x v : Nat) (hv : v < 201) : setI I b s x v = I x v := by
  unfold setI
  by_cases e : x = b
  · rw [if_pos e, e]; exact h v hv
  · rw [if_neg e]

/-! ### How they lie -/
def sameV (s t : VS) : Bool := (List.range 201).all fun v => s v == t v
theorem sameV_iff {s t : VS} : sameV s t = true ↔ encV s = encV t := by
  unfold sameV
  rw [List.all_eq_true]
  constructor
  · exact fun h => encV_congr fun i hi => by simpa using h i (by simpa using hi)
  · exact fun h i hi => by simpa using encV_inj h (by simpa using hi)
theorem sameV_at {s t : VS} (h : sameV s t = true) {v : Nat} (hv : v < 201) : s v = t v := encV_inj (sameV_iff.1 h) hv
def inA (n : Nat) (I : IV) : Array Value := rngV (n * 201) fun q => .bool (I (q / 201) (q % 201))
theorem inA_size (n : Nat) (I : IV) : (inA n I).size = n * 201 := rngV_size _ _
theorem inA_get {n b v : Nat} {I : IV} (hb : b < n) (hv : v < 201) : (inA n I)[b * 201 + v]? = some (.bool (I b v)) := by
  unfold inA
  have h1 : b * 201 + v < n * 201 := by
    have : (b + 1) * 201 ≤ n * 201 := Nat.mul_le_mul_right _ hb
    omega
  rw [rngV_get h1]
  have h2 : (b * 201 + v) / 201 = b := by omega
  have h3 : (b * 201 + v) % 201 = v := by omega
  rw [h2, h3]
theorem inA_put {n b v : Nat} {I : IV} {u : Bool} (hv : v < 201) : (inA n I).setIfInBounds (b * 201 + v) (.bool u) = inA n (setI I b (putV (I b) v u)) := by
  unfold inA
  rw [rngV_set]
  refine rngV_congr fun q hq => ?_
  unfold setI putV
  by_cases e : q = b * 201 + v
  · have h2 : q / 201 = b := by omega
    have h3 : q % 201 = v := by omega
    rw [if_pos e, if_pos h2, if_pos h3]
  · rw [if_neg e]
    by_cases h2 : q / 201 = b
    · rw [if_pos h2, if_neg (by omega), h2]
    · rw [if_neg h2]
theorem inA_sta {n b : Nat} {I : IV} {s : VS} (hb : b < n) : ((inA n I).toList.take (b * 201) ++ (encV s).toList ++ (inA n I).toList.drop (b * 201 + 201)).toArray = inA n (setI I b s) := by
  have hle : (b + 1) * 201 ≤ n * 201 := Nat.mul_le_mul_right _ hb
  have hsz := inA_size n I
  apply Array.ext'
  apply List.ext_getElem?
  intro q
  have hl1 : ((inA n I).toList.take (b * 201)).length = b * 201 := by simp [hsz]; omega
  have hl2 : (encV s).toList.length = 201 := by simp [encV]
  have hget : ∀ (J : IV) (q : Nat), q < n * 201 → (inA n J)[q]? = some (.bool (J (q / 201) (q % 201))) := fun J q hq => rngV_get hq
  rw [Array.getElem?_toList (xs := inA n (setI I b s))]
  show ((inA n I).toList.take (b * 201) ++ (encV s).toList ++ (inA n I).toList.drop (b * 201 + 201))[q]? = _
  by_cases h1 : q < b * 201
  · rw [List.append_assoc, List.getElem?_append_left (by omega), List.getElem?_take, if_pos h1, Array.getElem?_toList, hget I q (by omega), hget _ q (by omega)]
    unfold setI; rw [if_neg (by omega)]
  · by_cases h2 : q < b * 201 + 201
    · rw [List.append_assoc, List.getElem?_append_right (by omega), hl1, List.getElem?_append_left (by omega), Array.getElem?_toList, encV_get (by omega), hget _ q (by omega)]
      unfold setI
      rw [if_pos (by omega), show q - b * 201 = q % 201 by omega]
    · rw [List.getElem?_append_right (by simp only [List.length_append]; omega), List.length_append, hl1, hl2, List.getElem?_drop, Array.getElem?_toList, show b * 201 + 201 + (q - (b * 201 + 201)) = q by omega]
      by_cases h3 : q < n * 201
      · rw [hget I q h3, hget _ q h3]
        unfold setI; rw [if_neg (by omega)]
      · rw [Array.getElem?_eq_none (by omega), Array.getElem?_eq_none (by rw [inA_size]; omega)]
theorem inA_congr {n : Nat} {I J : IV} (h : ∀ b v, b < n → v < 201 → I b v = J b v) : inA n I = inA n J := rngV_congr fun q hq => by rw [h _ _ (by omega) (Nat.mod_lt _ (by decide))]
theorem inA_load {n b : Nat} {I : IV} (hb : b < n) : ∀ (j : Nat) (u : Value), (encV (I b)).toList[j]? = some u → (inA n I)[b * 201 + j]? = some u := fun j u hu => by
  have hj : j < 201 := by have := (List.getElem?_eq_some_iff.1 hu).1; simpa [encV] using this
  rw [inA_get hb hj]
  rw [Array.getElem?_toList, encV_get hj] at hu
  exact hu
theorem made_inA (n : Nat) : (madeCells (Array.replicate 201 (Value.bool false)) (n * 201)) = inA n fun _ _ => false := by
  apply Array.ext'
  apply List.ext_getElem?
  intro i
  rw [Array.getElem?_toList, Array.getElem?_toList]
  by_cases h : i < n * 201
  · unfold inA
    rw [rngV_get h]
    have : i % 201 < 201 := Nat.mod_lt _ (by decide)
    simp [madeCells, h, this]
  · have h1 : (madeCells (Array.replicate 201 (Value.bool false)) (n * 201))[i]? = none := Array.getElem?_eq_none (by simp [madeCells]; omega)
    have h2 : (inA n fun _ _ => false)[i]? = none := Array.getElem?_eq_none (by rw [inA_size]; omega)
    rw [h1, h2]
theorem encV_tell {s t : VS} : ∀ (i : Nat) (a b : Value), (encV s)[i]? = some a → (encV t)[i]? = some b → Tell .bool a b := fun i a b ha hb => by
  have hi : i < 201 := by have := (Array.getElem?_eq_some_iff.1 ha).1; simpa [encV] using this
  rw [encV_get hi] at ha hb
  cases ha; cases hb
  exact Tell.bool
end Go.Proofs.Ytcojedoejpcolaa

/- The package flow: edges, walked. -/
namespace Go.Proofs.Ytcojedoejpcolaa
set_option linter.unusedVariables false
open Go Go.RowKit
set_option maxRecDepth 100000

theorem RBlk.one (b : RBlk) : ∀ u ∈ b.cells, u.oneCell' = true := by
  intro u hu
  simp only [RBlk.cells, Tm.cells, List.mem_cons, List.not_mem_nil, or_false] at hu
  rcases hu with rfl | rfl | rfl | rfl | rfl <;> rfl
theorem Ed.one (e : Ed) : ∀ u ∈ e.cells, u.oneCell' = true := by
  intro u hu
  simp only [Ed.cells, List.mem_cons, List.not_mem_nil, or_false] at hu
  rcases hu with rfl | rfl | rfl <;> rfl
theorem Ed.one1 (e : Ed) : ∀ u ∈ [e.val].flatMap (fun v => v.cells.toList), u.oneCell' = true := by
  intro u hu
  have hu : u ∈ e.cells := by simpa [Ed.val, Value.cells] using hu
  exact e.one u hu
theorem edV_one (l : List Ed) : ∀ u ∈ edV l, u.oneCell' = true := by
  intro u hu
  simp only [edV, List.mem_flatMap] at hu
  obtain ⟨e, _, h⟩ := hu
  exact e.one u h
def ysE (ts : List Tm) : List (List Value) := (edges ts).map fun e => [e.val]
theorem ysE_get {ts : List Tm} {k : Nat} {vs : List Value} (h : (ysE ts)[k]? = some vs) : ∃ e, (edges ts)[k]? = some e ∧ vs = [e.val] ∧ k < (edges ts).length := by
  unfold ysE at h
  rw [List.getElem?_map] at h
  cases hn : (edges ts)[k]? with
  | none => rw [hn] at h; cases h
  | some e => rw [hn] at h; cases h; exact ⟨e, rfl, rfl, (List.getElem?_eq_some_iff.1 hn).1⟩
theorem ysE_len (ts : List Tm) : (ysE ts).length = (edges ts).length := by simp [ysE]
theorem ysE_one {ts : List Tm} : ∀ vs ∈ ysE ts, vs.length = 1 := by
  intro vs hvs
  unfold ysE at hvs
  rw [List.mem_map] at hvs
  obtain ⟨e, _, rfl⟩ := hvs
  rfl
section
def FEachV (g : Nat) : Value := .func (.func 147) #[] #[.pointer (some ⟨g, 0, none⟩)]
theorem flow_each_ct {w : World} {f : RFun} : Ct Try.prog 106 #[f.val] w (fun v L => ∃ g, v = FEachV g ∧ L = [blk g (.cells f.cells.toArray 43)]) := by
  refine Ct.mk Try.func106 rfl rfl ?_
  refine Cd.seq ?_
  refine Cd.region ?_
  refine Ol.x bxg ?_
  rintro _ _ ⟨g1, rfl, rfl⟩
  refine Ol.p (as_ rfl) ?_
  refine Ol.nil ?_
  refine Cd.seq ?_
  refine Cd.region ?_
  refine Ol.p mkf ?_
  refine Ol.p asf ?_
  refine Ol.nil ?_
  refine Cd.ret ⟨_, ret1 rfl rfl, _, .all, g1, rfl, rfl⟩
set_option maxHeartbeats 1000000 in
theorem flow_each_1_it {w0 : World} {B g : Nat} {f : RFun} (hf : FunAt w0 B f) (hfit : Fit f) : It Try.prog w0 B 147 #[.pointer (some ⟨g, 0, none⟩)] [blk g (.cells f.cells.toArray 43)] (ysE f.terms) := by
  intro y J Jx L0 hY h0
  have hbl := hfit.blen
  have htl : f.terms.length = f.blocks.length := by simp [RFun.terms]
  refine Cm.mk Try.func147 rfl rfl fun M => ?_
  have hret : ∀ {e : Exit} {σ : Env} {Lj D : List Res}, (e = .ret ∨ e = .normal) → (J (ysE f.terms).length Lj ∨ ∃ k, Jx k Lj) → Out ⟨Try.prog, 33, none, w0, B, M⟩ Try.f147 (fun _ L => ∃ Own' Lj, L = Own' ++ Lj ∧ (J (ysE f.terms).length Lj ∨ ∃ k, Jx k Lj)) e σ (D ++ Lj) := fun {e σ Lj D} he h => by
    rcases he with rfl | rfl <;> exact ⟨_, ret0 rfl, _, .all, D, Lj, rfl, h⟩
  refine Cd.seq ?_
  refine Cd.region ?_
  refine Ol.p (fdl fd_api_Func_1) ?_
  refine Ol.p (ld one_L_api_Block (Rd.blk (i := 0) rfl rfl)) ?_
  refine Ol.p (lens sl_L_api_Block) ?_
  refine Ol.p mvi ?_
  refine Ol.nil ?_
  refine Cd.block ?_
  refine Cd.loop (fun m σ L => ∃ k Lj, m = f.blocks.length - k ∧ k ≤ f.blocks.length ∧ Has σ [(0, .func (.yield y) #[] #[]), (8, .slice f.bA f.blocks.length f.bC), (9, .int .i64 f.blocks.length), (10, .int .i64 k)] ∧ L = blk g (.cells f.cells.toArray 43) :: Lj ∧ J (edgesTo f.terms k).length Lj) (n := f.blocks.length) ⟨0, L0, rfl, Nat.zero_le _, ⟨rfl, rfl, rfl, rfl, trivial⟩, rfl, h0⟩ ?_
  rintro _ σ L ⟨k, Lj, rfl, hk, hs, rfl, hJ⟩
  refine Cd.has hs ?_
  refine Cd.seq ?_
  refine Cd.region ?_
  refine Ol.p lsi ?_
  refine Ol.nil ?_
  refine Cd.seq ?_
  refine Cd.cond rfl (fun h => ?_) (fun h => ?_)
  · have hlt : k < f.blocks.length := by simpa using h
    obtain ⟨b, hb⟩ : ∃ b, f.blocks[k]? = some b := ⟨_, List.getElem?_eq_getElem hlt⟩
    have ht : f.terms[k]? = some b.term := by simp [RFun.terms, hb]
    refine Cd.skip ?_
    refine Cd.mid (fun σ' L' => ∃ Lj', Has σ' [(0, .func (.yield y) #[] #[]), (8, .slice f.bA f.blocks.length f.bC), (9, .int .i64 f.blocks.length), (10, .int .i64 k)] ∧ L' = blk g (.cells f.cells.toArray 43) :: Lj' ∧ J (edgesTo f.terms (k + 1)).length Lj') ?_ ?_
    · refine Cd.block ?_
      refine Cd.seq ?_
      refine Cd.region ?_
      refine Ol.p mvi ?_
      refine Ol.p (ixn sl_L_api_Block (Som.slc hf.blocks (by omega))) ?_
      refine Ol.p (lds ag_api_Block hf.blocks b.len (fun j u hu => by rw [hf.cell hb (List.getElem?_eq_some_iff.1 hu).1]; exact hu)) ?_
      refine Ol.x (alc zr_api_Block) ?_
      rintro _ _ ⟨g4, rfl, rfl⟩
      refine Ol.p asi ?_
      refine Ol.s (stw sz_api_Block rfl b.one (i := 0) rfl rfl) ?_
      refine Ol.nil ?_
      refine Cd.seq ?_
      refine Cd.region ?_
      refine Ol.p (fdl fd_api_Block_1) ?_
      refine Ol.p (ldp (k := 0 + 1) (vs := b.term.cells.toArray) ag_api_Term (i := 0) rfl rfl (fun j u hu => by rw [Nat.zero_add, Nat.add_comm]; simpa [RBlk.cells] using hu)) ?_
      refine Ol.x (sp_call en_ir_To (fun M' w' hh => ir_To_ct (t := b.term))) ?_
      rintro _ _ ⟨_, rfl, A, c, rfl, rfl⟩
      refine Ol.p (lens sl_L_int) ?_
      refine Ol.p mvi ?_
      refine Ol.nil ?_
      obtain ⟨to, hto⟩ : ∃ to, to = toL b.term := ⟨_, rfl⟩
      have htoL := toL_len b.term
      rw [← hto] at htoL ⊢
      refine Cd.block ?_
      refine Cd.loop (fun m σ L => ∃ j Lj, m = to.length - j ∧ j ≤ to.length ∧ Has σ [(0, .func (.yield y) #[] #[]), (3, .int .i64 k), (8, .slice f.bA f.blocks.length f.bC), (9, .int .i64 f.blocks.length), (10, .int .i64 k), (17, .slice A to.length c), (18, .int .i64 to.length), (19, .int .i64 j)] ∧ L = [row (.slice A to.length c) 3 1 to.length (ints to), blk g4 (.cells b.cells.toArray 50), blk g (.cells f.cells.toArray 43)] ++ Lj ∧ J ((edgesTo f.terms k).length + j) Lj) (n := to.length) ⟨0, Lj, rfl, Nat.zero_le _, ⟨rfl, rfl, rfl, rfl, rfl, rfl, rfl, rfl, trivial⟩, rfl, hJ⟩ ?_
      rintro _ σ L ⟨j, Lj, rfl, hj, hs, rfl, hJ⟩
      refine Cd.has hs ?_
      refine Cd.seq ?_
      refine Cd.region ?_
      refine Ol.p lsi ?_
      refine Ol.nil ?_
      refine Cd.seq ?_
      refine Cd.cond rfl (fun h => ?_) (fun h => ?_)
      · have hjl : j < to.length := by simpa using h
        have hget := ints_get hjl
        have hy1 : (ysE f.terms)[(edgesTo f.terms k).length + j]? = some [.agg #[.int .i64 k, .int .i64 j, .int .i64 to[j]]] := by
          unfold ysE
          rw [List.getElem?_map, edges_get ht (by rw [← hto]; exact List.getElem?_eq_getElem hjl)]
          rfl
        refine Cd.skip ?_
        refine Cd.seq ?_
        refine Cd.block ?_
        refine Cd.seq ?_
        refine Cd.region ?_
        refine Ol.p mvi ?_
        refine Ol.p (ixn1 sl_L_int (Som.row (i := 0) rfl (by omega))) ?_
        refine Ol.p (ld one_int (Rd.row (i := 0) rfl hget)) ?_
        refine Ol.p asi ?_
        refine Ol.p asi ?_
        refine Ol.nil ?_
        refine Cd.seq ?_
        refine Cd.region ?_
        refine Ol.p mvf ?_
        refine Ol.p mvi ?_
        refine Ol.p mvi ?_
        refine Ol.p mvi ?_
        refine Ol.p (bds bs_api_Edge zr_api_Edge) ?_
        refine Ol.x (sp_yield (Own := [row (.slice A to.length c) 3 1 to.length (ints to), blk g4 (.cells b.cells.toArray 50), blk g (.cells f.cells.toArray 43)]) hY hy1 hJ) ?_
        rintro _ _ ⟨bb, Lj', rfl, rfl, ht', hf'⟩
        refine Ol.p noti ?_
        refine Ol.nil ?_
        refine Cd.cond rfl (fun hb => ?_) (fun hb => ?_)
        · have hb' : bb = false := by simpa using hb
          exact Cd.ret (hret (.inl rfl) (.inr ⟨_, hf' hb'⟩))
        · have hb' : bb = true := by simpa using hb
          refine Cd.skip ?_
          refine Cd.region ?_
          refine Ol.p addi ?_
          refine Ol.p mvi ?_
          refine Ol.nil ?_
          exact ⟨to.length - (j + 1), by omega, j + 1, Lj', rfl, by omega, ⟨rfl, rfl, rfl, rfl, rfl, rfl, rfl, rfl, trivial⟩, rfl, ht' hb'⟩
      · have hge : j = to.length := by
          have : ¬ (j : Int) < to.length := by simpa using h
          omega
        refine Cd.keep (L' := blk g (.cells f.cells.toArray 43) :: Lj) (.sub (.cons _ (.cons _ (List.Sublist.refl _)))) ?_
        refine Cd.exit (id := 2) ⟨Lj, ⟨rfl, rfl, rfl, rfl, trivial⟩, rfl, ?_⟩
        rw [edgesTo_succ ht, List.length_append, edgesB_len, ← hto, ← hge]
        exact hJ
    · rintro σ' _ ⟨Lj', hs', rfl, hJ'⟩
      refine Cd.has hs' ?_
      refine Cd.region ?_
      refine Ol.p addi ?_
      refine Ol.p mvi ?_
      refine Ol.nil ?_
      exact ⟨f.blocks.length - (k + 1), by omega, k + 1, Lj', rfl, by omega, ⟨rfl, rfl, rfl, rfl, trivial⟩, rfl, hJ'⟩
  · have hge : k = f.blocks.length := by
      have : ¬ (k : Int) < f.blocks.length := by simpa using h
      omega
    subst hge
    refine Cd.exit (id := 0) ?_
    refine hret (D := [_]) (.inr rfl) (.inl ?_)
    rw [ysE_len]
    unfold edges
    rw [htl]
    exact hJ
end
section
def okE (n : Nat) (e : Ed) : Bool := decide (0 ≤ e.to) && decide (e.to < (n : Int))
theorem uint_ge {a : Int} {n : Nat} (h : -9223372036854775808 ≤ a ∧ a ≤ 9223372036854775807) (hn : n < 2 ^ 50) : decide (IntKind.u64.wrap (n : Int) ≤ IntKind.u64.wrap a) = !(decide (0 ≤ a) && decide (a < (n : Int))) := by
  rw [wrapU, wrapU]
  by_cases h1 : 0 ≤ a <;> by_cases h2 : a < (n : Int) <;> simp [h1, h2] <;> omega
theorem edge_i64 {f : RFun} (hfit : Fit f) {e : Ed} (he : e ∈ edges f.terms) : (-9223372036854775808 ≤ e.to ∧ e.to ≤ 9223372036854775807) ∧ (0 ≤ e.src ∧ e.src < (f.blocks.length : Int)) ∧ (0 ≤ e.arm ∧ e.arm < 2) := by
  obtain ⟨k, j, t, hk, hj, h1, h2⟩ := mem_edges.1 he
  have hkl := (List.getElem?_eq_some_iff.1 hk).1
  unfold RFun.terms at hk hkl
  rw [List.getElem?_map] at hk
  cases hb : f.blocks[k]? with
  | none => rw [hb] at hk; cases hk
  | some b =>
    rw [hb] at hk
    cases hk
    have hbm := List.mem_of_getElem? hb
    have hjl := (List.getElem?_eq_some_iff.1 hj).1
    have hlen := toL_len b.term
    refine ⟨?_, ⟨by omega, by simp at hkl; omega⟩, by omega, by omega⟩
    rcases toL_mem (List.mem_of_getElem? hj) with e | e
    · exact hfit.term b hbm _ (by simp [e])
    · exact hfit.term b hbm _ (by simp [e])
set_option maxHeartbeats 1000000 in
theorem flow_Closed_ct {w : World} {f : RFun} (hf : FunAt w w.heap.size f) (hfit : Fit f) : Ct Try.prog 59 #[f.val] w (Is (.bool (closed f.terms))) := by
  have hbl := hfit.blen
  have htl : f.terms.length = f.blocks.length := by simp [RFun.terms]
  refine Ct.mk Try.func59 rfl rfl ?_
  refine Cd.seq ?_
  refine Cd.region ?_
  refine Ol.x bxg ?_
  rintro _ _ ⟨g1, rfl, rfl⟩
  refine Ol.x (alc zr_bool) ?_
  rintro _ _ ⟨g2, rfl, rfl⟩
  refine Ol.nil ?_
  refine Cd.seq ?_
  refine Cd.seq ?_
  refine Cd.region ?_
  refine Ol.p (ldw ag_api_Func (i := 1) rfl rfl) ?_
  refine Ol.x (sp_call en_flow_each (fun M w' hh => flow_each_ct (f := f))) ?_
  rintro _ _ ⟨_, rfl, gE, rfl, rfl⟩
  refine Ol.nil ?_
  refine Cd.block ?_
  refine Cd.rf (Own := [blk gE (.cells f.cells.toArray 43)]) (L0 := [blk g2 (.cells #[.bool false] 4), blk g1 (.cells f.cells.toArray 43)])
    (fun k L => L = [blk g2 (.cells #[.bool false] 4), blk g1 (.cells f.cells.toArray 43)] ∧ ∀ i e, i < k → (edges f.terms)[i]? = some e → okE f.blocks.length e = true)
    (fun _ c L => c = .ret ∧ L = [blk g2 (.cells #[.bool false] 4), blk g1 (.cells f.cells.toArray 43)] ∧ closed f.terms = false) (fun _ h => by cases h) en_flow_each_1 (flow_each_1_it hf hfit) (.refl _) ⟨rfl, fun i e h => by omega⟩ ysE_one rfl ?_ ?_ ?_
  · rintro l H k vs Lj hk ⟨rfl, hok⟩
    obtain ⟨e, he, rfl, hlt⟩ := ysE_get hk
    have hem := List.mem_of_getElem? he
    have hei := edge_i64 hfit hem
    refine Cd.region ?_
    refine Ol.x (alc zr_api_Edge) ?_
    rintro _ _ ⟨g3, rfl, rfl⟩
    refine Ol.s (stw sz_api_Edge rfl e.one (i := 0) rfl rfl) ?_
    refine Ol.nil ?_
    intro H' r hr
    refine Cd.block ?_
    refine Cd.seq ?_
    refine Cd.region ?_
    refine Ol.p (fdl fd_api_Edge_2) ?_
    refine Ol.p (ld one_int (Rd.blk (i := 0) rfl rfl)) ?_
    refine Ol.p (cvw in_int in_uint) ?_
    refine Ol.p (fdl fd_api_Func_1) ?_
    refine Ol.p (ld one_L_api_Block (Rd.blk (i := 2) rfl rfl)) ?_
    refine Ol.p (lens sl_L_api_Block) ?_
    refine Ol.p (cvw in_int in_uint) ?_
    refine Ol.p gei ?_
    refine Ol.nil ?_
    refine Cd.cond rfl (fun h => ?_) (fun h => ?_)
    · rw [uint_ge hei.1 hbl] at h
      refine Cd.seq ?_
      refine Cd.region ?_
      refine Ol.s (stv sz_bool (i := 1) rfl rfl) ?_
      refine Ol.keep (.sub (.cons _ (List.Sublist.refl _))) ?_
      refine Ol.nil ?_
      refine Cd.ret ⟨rfl, rfl, ?_⟩
      unfold closed
      have : (edges f.terms).all (fun e => decide (0 ≤ e.to) && decide (e.to < (f.terms.length : Int))) = false := by
        rw [List.all_eq_false]
        refine ⟨e, hem, ?_⟩
        rw [htl]
        simp at h ⊢
        omega
      rw [this]; rfl
    · rw [uint_ge hei.1 hbl] at h
      refine Cd.keep (L' := [blk g2 (.cells #[.bool false] 4), blk g1 (.cells f.cells.toArray 43)]) (.sub (.cons _ (List.Sublist.refl _))) ?_
      refine Cd.skip ⟨rfl, ?_⟩
      intro i e' hi he'
      rcases Nat.lt_or_ge i k with h3 | h3
      · exact hok i e' h3 he'
      · have : i = k := by omega
        subst this
        rw [he] at he'
        cases he'
        unfold okE
        simp at h ⊢
        omega
  · rintro L' ⟨rfl, hok⟩
    have hall : (edges f.terms).all (fun e => decide (0 ≤ e.to) && decide (e.to < (f.terms.length : Int))) = true := by
      rw [List.all_eq_true]
      intro e he
      obtain ⟨i, hi, rfl⟩ := List.getElem_of_mem he
      have := hok i _ (by rw [ysE_len]; exact hi) (List.getElem?_eq_getElem hi)
      rw [htl]; exact this
    refine Cd.seq ?_
    cases h4 : decide ((0 : Int) < (f.blocks.length : Int)) with
    | true =>
      refine Cd.region ?_
      refine Ol.p (fdl fd_api_Func_1) ?_
      refine Ol.p (ld one_L_api_Block (Rd.blk (i := 1) rfl rfl)) ?_
      refine Ol.p (lens sl_L_api_Block) ?_
      refine Ol.p gti ?_
      refine Ol.p mvb ?_
      refine Ol.gp h4 (fdl fd_api_Func_1) ?_
      refine Ol.gp h4 (ld one_L_api_Block (Rd.blk (i := 1) rfl rfl)) ?_
      refine Ol.gp h4 (lens sl_L_api_Block) ?_
      refine Ol.gp h4 lei ?_
      refine Ol.p (pkTb h4) ?_
      refine Ol.s (stv sz_bool (i := 0) rfl rfl) ?_
      refine Ol.nil ?_
      refine Cd.ret ⟨.bool _, retv rfl one_bool rfl (i := 0) rfl rfl, [], .nil, ?_, rfl⟩
      have h4' : 0 < f.blocks.length := by simpa using h4
      unfold closed
      rw [hall, htl]
      simp [h4']
      omega
    | false =>
      refine Cd.region ?_
      refine Ol.p (fdl fd_api_Func_1) ?_
      refine Ol.p (ld one_L_api_Block (Rd.blk (i := 1) rfl rfl)) ?_
      refine Ol.p (lens sl_L_api_Block) ?_
      refine Ol.p gti ?_
      refine Ol.p mvb ?_
      refine Ol.gn h4 ?_
      refine Ol.gn h4 ?_
      refine Ol.gn h4 ?_
      refine Ol.gn h4 ?_
      refine Ol.p (pkFb h4) ?_
      refine Ol.s (stv sz_bool (i := 0) rfl rfl) ?_
      refine Ol.nil ?_
      refine Cd.ret ⟨.bool _, retv rfl one_bool rfl (i := 0) rfl rfl, [], .nil, ?_, rfl⟩
      have h4' : f.blocks.length = 0 := by simpa using h4
      unfold closed
      rw [htl, h4']
      simp
  · rintro k c L' ⟨rfl, rfl, hcl⟩
    refine Cd.ret ⟨.bool _, retv rfl one_bool rfl (i := 0) rfl rfl, [], .nil, ?_, rfl⟩
    rw [hcl]
end
/-- A function value that tells whether something is so of edges. -/
def TellsE (P : Program) (w : World) (g : FuncId) (fst cap : Array Value) (ts : List Tm) (p : Ed → Bool) : Prop := Ent P g ∧ ∀ e ∈ edges ts, ∀ w', Below w.heap.size w w' → Ct P g (fst ++ #[e.val] ++ cap) w' (Is (.bool (p e)))
theorem filter_snoc {ts : List Tm} {p : Ed → Bool} {k : Nat} {e : Ed} (h : (edges ts)[k]? = some e) : ((edges ts).take (k + 1)).filter p = ((edges ts).take k).filter p ++ (if p e = true then [e] else []) := by
  rw [take_snoc_ h, List.filter_append]
  congr 1
  by_cases hp : p e = true <;> simp [hp]
theorem edV_app (a b : List Ed) : edV (a ++ b) = edV a ++ edV b := by simp [edV]
theorem closed_len {ts : List Tm} (h : closed ts = true) : 0 < ts.length ∧ ts.length ≤ 200 ∧ ∀ e ∈ edges ts, 0 ≤ e.to ∧ e.to < (ts.length : Int) := by
  unfold closed at h
  simp only [Bool.and_eq_true, decide_eq_true_eq, List.all_eq_true] at h
  exact ⟨h.1.2, h.2, fun e he => h.1.1 e he⟩
section
set_option maxHeartbeats 1000000 in
theorem flow_some_ct {w : World} {f : RFun} {g : FuncId} {fst cap : Array Value} {p : Ed → Bool} (hf : FunAt w w.heap.size f) (hfit : Fit f) (hp : TellsE Try.prog w g fst cap f.terms p) :
    Ct Try.prog 104 #[f.val, .func (.func g) fst cap] w (NewL 85 3 (someE f.terms p).length (edV (someE f.terms p))) := by
  have hbl := hfit.blen
  have htl : f.terms.length = f.blocks.length := by simp [RFun.terms]
  refine Ct.mk Try.func104 rfl rfl ?_
  refine Cd.seq ?_
  refine Cd.region ?_
  refine Ol.x bxg ?_
  rintro _ _ ⟨g2, rfl, rfl⟩
  refine Ol.x bxf ?_
  rintro _ _ ⟨g3, rfl, rfl⟩
  refine Ol.x (alc zr_L_api_Edge) ?_
  rintro _ _ ⟨g4, rfl, rfl⟩
  refine Ol.nil ?_
  refine Cd.seq ?_
  refine Cd.seq ?_
  refine Cd.region ?_
  refine Ol.p (ldw ag_api_Func (i := 2) rfl rfl) ?_
  refine Ol.s (cl en_flow_Closed (fun M w' hh => flow_Closed_ct (hf.now hh) hfit)) ?_
  refine Ol.p noti ?_
  refine Ol.nil ?_
  refine Cd.cond rfl (fun h => ?_) (fun h => ?_)
  · have hcl : closed f.terms = false := by simpa using h
    refine Cd.seq ?_
    refine Cd.region ?_
    refine Ol.s (stv sz_L_api_Edge (i := 0) rfl rfl) ?_
    refine Ol.nil ?_
    have e : someE f.terms p = [] := by unfold someE; rw [hcl]; rfl
    rw [e]
    refine Cd.nr 85 3 ?_
    refine Cd.ret ⟨.slice none 0 0, retv rfl one_L_api_Edge rfl (i := 1) rfl rfl, _, .sub (.cons_cons _ (.cons _ (.cons _ (.cons _ .slnil)))), none, 0, rfl, rfl⟩
  · have hcl : closed f.terms = true := by simpa using h
    obtain ⟨hpos, hmax, _⟩ := closed_len hcl
    have hel := edgesTo_len_le f.terms f.terms.length
    have e : someE f.terms p = (edges f.terms).filter p := by unfold someE; rw [hcl]; rfl
    rw [e]
    refine Cd.skip ?_
    refine Cd.seq ?_
    refine Cd.seq ?_
    refine Cd.region ?_
    refine Ol.p (ldw ag_api_Func (i := 2) rfl rfl) ?_
    refine Ol.x (sp_call en_flow_each (fun M w' hh => flow_each_ct (f := f))) ?_
    rintro _ _ ⟨_, rfl, gE, rfl, rfl⟩
    refine Ol.nil ?_
    refine Cd.block ?_
    refine Cd.nr 85 3 ?_
    refine Cd.rf (Own := [blk gE (.cells f.cells.toArray 43)]) (L0 := [row (.slice none 0 0) 85 3 0 [], blk g4 (.cells #[.slice none 0 0] 81), blk g3 (.cells #[.func (.func g) fst cap] 154), blk g2 (.cells f.cells.toArray 43)])
      (fun k L => ∃ A c n, n = (((edges f.terms).take k).filter p).length ∧ L = [row (.slice A n c) 85 3 n (edV (((edges f.terms).take k).filter p)), blk g4 (.cells #[.slice A n c] 81), blk g3 (.cells #[.func (.func g) fst cap] 154), blk g2 (.cells f.cells.toArray 43)])
      (fun _ _ _ => False) (fun _ h => by cases h) en_flow_each_1 (flow_each_1_it hf hfit) (.swap _ _ _) ⟨none, 0, 0, rfl, rfl⟩ ysE_one rfl ?_ ?_ (fun _ _ _ h => h.elim)
    · rintro l H k vs Lj hk ⟨A, c, n, hn, rfl⟩
      obtain ⟨e, he, rfl, hlt⟩ := ysE_get hk
      have hem := List.mem_of_getElem? he
      have hnk : n ≤ k := by rw [hn]; exact Nat.le_trans (List.length_filter_le _ _) (by simp; omega)
      have hlt2 : k < 400 := by unfold edges at hlt; omega
      refine Cd.region ?_
      refine Ol.x (alc zr_api_Edge) ?_
      rintro _ _ ⟨g5, rfl, rfl⟩
      refine Ol.s (stw sz_api_Edge rfl e.one (i := 0) rfl rfl) ?_
      refine Ol.nil ?_
      intro H' r hr
      refine Cd.block ?_
      refine Cd.seq ?_
      refine Cd.region ?_
      refine Ol.p (ldv one_func_api_Edge_bool (i := 3) rfl) ?_
      refine Ol.p (ldw ag_api_Edge (i := 0) rfl rfl) ?_
      refine Ol.x (sp_callv hp.1 (fun M w' hh => hp.2 e hem w' hh.below)) ?_
      rintro _ _ ⟨_, rfl, rfl, rfl⟩
      refine Ol.nil ?_
      refine Cd.cond rfl (fun h => ?_) (fun h => ?_)
      · skip
        refine Cd.region ?_
        refine Ol.p (ldv one_L_api_Edge (i := 2) rfl) ?_
        refine Ol.p (ldw ag_api_Edge (i := 0) rfl rfl) ?_
        refine Ol.x (bsn [e.val] sl_L_api_Edge zr_api_Edge (by intro v hv; cases hv with | head => rfl | tail _ h => cases h) rfl (by decide) (by decide)) ?_
        rintro _ _ ⟨g17, rfl, rfl⟩
        refine Ol.x (apn (i := 2) (m := 1) sl_L_api_Edge zr_api_Edge rfl (by decide) rfl (Src.row (i := 0) rfl rfl) e.one1 (by unfold maxLen; omega) (by omega)) ?_
        rintro _ _ ⟨A', c', rfl, rfl⟩
        refine Ol.s (stv sz_L_api_Edge (i := 3) rfl rfl) ?_
        refine Ol.keep (.sub (.cons _ (.cons _ (List.Sublist.refl _)))) ?_
        refine Ol.nil ?_
        refine ⟨A', c', n + 1, ?_, ?_⟩
        · rw [filter_snoc he, if_pos h, List.length_append, ← hn]; rfl
        · rw [filter_snoc he, if_pos h, edV_app]
          rfl
      · refine Cd.keep (.sub (.cons _ (List.Sublist.refl _))) ?_
        refine Cd.skip ⟨A, c, n, ?_, ?_⟩
        · rw [filter_snoc he, if_neg (by rw [h]; simp), List.append_nil]; exact hn
        · rw [filter_snoc he, if_neg (by rw [h]; simp), List.append_nil]
    · rintro L' ⟨A, c, n, hn, rfl⟩
      rw [ysE_len, List.take_length] at hn ⊢
      subst hn
      refine Cd.seq ?_
      refine Cd.region ?_
      refine Ol.p (ldv one_L_api_Edge (i := 1) rfl) ?_
      refine Ol.s (stv sz_L_api_Edge (i := 1) rfl rfl) ?_
      refine Ol.nil ?_
      refine Cd.ret ⟨.slice _ _ _, retv rfl one_L_api_Edge rfl (i := 1) rfl rfl, _, .sub (.cons_cons _ (.cons _ (.cons _ (.cons _ .slnil)))), A, c, rfl, rfl⟩
end
section
theorem flow_Edges_1_ct {w : World} {e : Ed} : Ct Try.prog 172 #[e.val] w (Is (.bool true)) := by
  refine Ct.mk Try.func172 rfl rfl ?_
  refine Cd.seq ?_
  refine Cd.region ?_
  refine Ol.x bxg ?_
  rintro _ _ ⟨g1, rfl, rfl⟩
  refine Ol.p asb ?_
  refine Ol.nil ?_
  refine Cd.seq ?_
  refine Cd.region ?_
  refine Ol.p asb ?_
  refine Ol.nil ?_
  refine Cd.ret ⟨.bool _, ret1 rfl rfl, [], .nil, rfl, rfl⟩
theorem flow_Edges_ct {w : World} {f : RFun} (hf : FunAt w w.heap.size f) (hfit : Fit f) : Ct Try.prog 146 #[f.val] w (NewL 85 3 (someE f.terms fun _ => true).length (edV (someE f.terms fun _ => true))) := by
  refine Ct.mk Try.func146 rfl rfl ?_
  refine Cd.seq ?_
  refine Cd.region ?_
  refine Ol.x bxg ?_
  rintro _ _ ⟨g1, rfl, rfl⟩
  refine Ol.p ass ?_
  refine Ol.nil ?_
  refine Cd.seq ?_
  refine Cd.region ?_
  refine Ol.p (ldw ag_api_Func (i := 0) rfl rfl) ?_
  refine Ol.x (sp_call en_flow_some (fun M w' hh => flow_some_ct (g := 172) (fst := #[]) (cap := #[]) (p := fun _ => true) (hf.now hh) hfit ⟨en_flow_Edges_1, fun e he w2 h2 => flow_Edges_1_ct⟩)) ?_
  rintro _ _ ⟨_, rfl, A, c, rfl, rfl⟩
  refine Ol.p ass ?_
  refine Ol.nil ?_
  refine Cd.ret ⟨.slice _ _ _, ret1 rfl rfl, _, .sub (.cons_cons _ (.cons _ .slnil)), A, c, rfl, rfl⟩
end
end Go.Proofs.Ytcojedoejpcolaa

/- The package ir: what is behind a block; long, whole functions: walked. -/
namespace Go.Proofs.Ytcojedoejpcolaa
set_option linter.unusedVariables false
open Go Go.RowKit
set_option maxRecDepth 100000

theorem hasV_congr {s s' : VS} {l : List Int} (h : ∀ n ∈ l, s n.toNat = s' n.toNat) : hasV s l = hasV s' l := by
  unfold hasV
  rw [Bool.eq_iff_iff, List.all_eq_true, List.all_eq_true]
  exact ⟨fun h2 n hn => by rw [← h n hn]; exact h2 n hn, fun h2 n hn => by rw [h n hn]; exact h2 n hn⟩
/-- A function value that tells whether something is so of what a list holds. -/
def TellsG {α : Type} (P : Program) (w : World) (g : FuncId) (fst cap : Array Value) (l : List α) (v : α → Value) (p : α → Bool) : Prop := Ent P g ∧ ∀ x ∈ l, ∀ w', Below w.heap.size w w' → Ct P g (fst ++ #[v x] ++ cap) w' (Is (.bool (p x)))
theorem blk_cell {l : List RBlk} {k j : Nat} {b : RBlk} {u : Value} (hk : l[k]? = some b) (hu : b.cells[j]? = some u) : (l.flatMap RBlk.cells)[k * 5 + j]? = some u := by
  rw [flat_get RBlk.len _ _ _ _ hk (by have := (List.getElem?_eq_some_iff.1 hu).1; rw [RBlk.len] at this; exact this)]; exact hu
theorem setReads {w' : World} {B i g : Nat} {w0 : World} {M L : List Res} {s : VS} {e : TypeId} (hh : Hp w0 B (M ++ L) w') (hi : L[i]? = some (blk g (.cells (encV s) e))) : Reads w' w'.heap.size 1 (some ⟨g, 0, none⟩) 201 (encV s).toList :=
  Reads.blk hh hi (by simp [encV]) (fun j u hu => by simpa using hu)
section
theorem slices_IndexFunc_Ins_ct {w : World} {A : Option Addr} {c : Nat} {l : List RIns} {g : FuncId} {fst cap : Array Value} {p : RIns → Bool} (hl : Reads w w.heap.size 8 A l.length (l.flatMap RIns.cells)) (hb : l.length < 2 ^ 62) (hf : TellsG Try.prog w g fst cap l RIns.val p) :
    Ct Try.prog 165 #[.slice A l.length c, .func (.func g) fst cap] w (Is (.int .i64 (indexI p l))) := by
  refine Ct.mk Try.func165 rfl rfl ?_
  refine Cd.seq ?_
  refine Cd.region ?_
  refine Ol.p asi ?_
  refine Ol.nil ?_
  refine Cd.seq ?_
  refine Cd.seq ?_
  refine Cd.region ?_
  refine Ol.p mvs ?_
  refine Ol.p (lens sl_L_api_Ins) ?_
  refine Ol.p mvi ?_
  refine Ol.nil ?_
  refine Cd.block ?_
  refine Cd.loop (fun m σ L => ∃ k, m = l.length - k ∧ k ≤ l.length ∧ Has σ [(0, .slice A l.length c), (1, .func (.func g) fst cap), (7, .int .i64 l.length), (8, .int .i64 k)] ∧ L = [] ∧ ∀ i y, i < k → l[i]? = some y → p y = false) (n := l.length) ⟨0, rfl, Nat.zero_le _, ⟨rfl, rfl, rfl, rfl, trivial⟩, rfl, fun i y h => by omega⟩ ?_
  rintro _ σ L ⟨k, rfl, hk, hs, rfl, hno⟩
  refine Cd.has hs ?_
  refine Cd.seq ?_
  refine Cd.region ?_
  refine Ol.p lsi ?_
  refine Ol.nil ?_
  refine Cd.seq ?_
  refine Cd.cond rfl (fun h => ?_) (fun h => ?_)
  · have hlt : k < l.length := by
      simp only [decide_eq_true_eq] at h; omega
    obtain ⟨x, hx⟩ : ∃ x, l[k]? = some x := ⟨_, List.getElem?_eq_getElem hlt⟩
    refine Cd.skip ?_
    refine Cd.seq ?_
    refine Cd.block ?_
    refine Cd.seq ?_
    refine Cd.region ?_
    refine Ol.p mvi ?_
    refine Ol.p asi ?_
    refine Ol.nil ?_
    refine Cd.seq ?_
    refine Cd.region ?_
    refine Ol.p mvf ?_
    refine Ol.p mvs ?_
    refine Ol.p mvi ?_
    refine Ol.p (ixn sl_L_api_Ins (Som.slc hl (by omega))) ?_
    refine Ol.p (lds (es := x.cells) ag_api_Ins hl x.len (fun j u hu => ins_cell hx hu)) ?_
    refine Ol.x (sp_callv hf.1 (fun M w' hh => hf.2 x (List.mem_of_getElem? hx) w' hh.below)) ?_
    rintro _ _ ⟨_, rfl, rfl, rfl⟩
    refine Ol.nil ?_
    refine Cd.cond rfl (fun h2 => ?_) (fun h2 => ?_)
    · refine Cd.seq ?_
      refine Cd.region ?_
      refine Ol.p mvi ?_
      refine Ol.p asi ?_
      refine Ol.nil ?_
      refine Cd.ret ⟨_, ret1 rfl rfl, [], .nil, ?_, rfl⟩
      rw [indexI_at hx h2 hno]
      rfl
    · refine Cd.skip ?_
      refine Cd.region ?_
      refine Ol.p addi ?_
      refine Ol.p mvi ?_
      refine Ol.nil ?_
      refine ⟨l.length - (k + 1), by omega, k + 1, rfl, by omega, ⟨rfl, rfl, rfl, rfl, trivial⟩, rfl, ?_⟩
      intro i y hi hy
      rcases Nat.lt_or_ge i k with h3 | h3
      · exact hno i y h3 hy
      · have : i = k := by omega
        subst this
        rw [hx] at hy
        cases hy
        exact h2
  · have hge : k = l.length := by
      simp only [decide_eq_false_iff_not] at h; omega
    subst hge
    refine Cd.exit (id := 0) ?_
    refine Cd.seq ?_
    refine Cd.region ?_
    refine Ol.p asi ?_
    refine Ol.nil ?_
    refine Cd.ret ⟨_, ret1 rfl rfl, [], .nil, ?_, rfl⟩
    rw [indexI_none hno]
    rfl
theorem slices_ContainsFunc_Ins_ct {w : World} {A : Option Addr} {c : Nat} {l : List RIns} {g : FuncId} {fst cap : Array Value} {p : RIns → Bool} (hl : Reads w w.heap.size 8 A l.length (l.flatMap RIns.cells)) (hb : l.length < 2 ^ 62) (hf : TellsG Try.prog w g fst cap l RIns.val p) :
    Ct Try.prog 131 #[.slice A l.length c, .func (.func g) fst cap] w (Is (.bool (l.any p))) := by
  refine Ct.mk Try.func131 rfl rfl ?_
  refine Cd.seq ?_
  refine Cd.region ?_
  refine Ol.p asb ?_
  refine Ol.nil ?_
  refine Cd.seq ?_
  refine Cd.region ?_
  refine Ol.p mvs ?_
  refine Ol.p mvf ?_
  refine Ol.s (cl en_slices_IndexFunc_L_api_Ins_api_Ins (fun M w' hh => slices_IndexFunc_Ins_ct (hl.now hh) hb ⟨hf.1, fun n hn w2 h2 => hf.2 n hn w2 (hh.below.trans (h2.mono hh.le))⟩)) ?_
  refine Ol.p gei ?_
  refine Ol.p asb ?_
  refine Ol.nil ?_
  refine Cd.ret ⟨.bool _, ret1 rfl rfl, [], .nil, ?_, rfl⟩
  rw [indexI_ge]
end
section
theorem slices_IndexFunc_Block_ct {w : World} {A : Option Addr} {c : Nat} {l : List RBlk} {g : FuncId} {fst cap : Array Value} {p : RBlk → Bool} (hl : Reads w w.heap.size 5 A l.length (l.flatMap RBlk.cells)) (hb : l.length < 2 ^ 62) (hf : TellsG Try.prog w g fst cap l RBlk.val p) :
    Ct Try.prog 164 #[.slice A l.length c, .func (.func g) fst cap] w (Is (.int .i64 (indexI p l))) := by
  refine Ct.mk Try.func164 rfl rfl ?_
  refine Cd.seq ?_
  refine Cd.region ?_
  refine Ol.p asi ?_
  refine Ol.nil ?_
  refine Cd.seq ?_
  refine Cd.seq ?_
  refine Cd.region ?_
  refine Ol.p mvs ?_
  refine Ol.p (lens sl_L_api_Block) ?_
  refine Ol.p mvi ?_
  refine Ol.nil ?_
  refine Cd.block ?_
  refine Cd.loop (fun m σ L => ∃ k, m = l.length - k ∧ k ≤ l.length ∧ Has σ [(0, .slice A l.length c), (1, .func (.func g) fst cap), (7, .int .i64 l.length), (8, .int .i64 k)] ∧ L = [] ∧ ∀ i y, i < k → l[i]? = some y → p y = false) (n := l.length) ⟨0, rfl, Nat.zero_le _, ⟨rfl, rfl, rfl, rfl, trivial⟩, rfl, fun i y h => by omega⟩ ?_
  rintro _ σ L ⟨k, rfl, hk, hs, rfl, hno⟩
  refine Cd.has hs ?_
  refine Cd.seq ?_
  refine Cd.region ?_
  refine Ol.p lsi ?_
  refine Ol.nil ?_
  refine Cd.seq ?_
  refine Cd.cond rfl (fun h => ?_) (fun h => ?_)
  · have hlt : k < l.length := by
      simp only [decide_eq_true_eq] at h; omega
    obtain ⟨x, hx⟩ : ∃ x, l[k]? = some x := ⟨_, List.getElem?_eq_getElem hlt⟩
    refine Cd.skip ?_
    refine Cd.seq ?_
    refine Cd.block ?_
    refine Cd.seq ?_
    refine Cd.region ?_
    refine Ol.p mvi ?_
    refine Ol.p asi ?_
    refine Ol.nil ?_
    refine Cd.seq ?_
    refine Cd.region ?_
    refine Ol.p mvf ?_
    refine Ol.p mvs ?_
    refine Ol.p mvi ?_
    refine Ol.p (ixn sl_L_api_Block (Som.slc hl (by omega))) ?_
    refine Ol.p (lds (es := x.cells) ag_api_Block hl x.len (fun j u hu => blk_cell hx hu)) ?_
    refine Ol.x (sp_callv hf.1 (fun M w' hh => hf.2 x (List.mem_of_getElem? hx) w' hh.below)) ?_
    rintro _ _ ⟨_, rfl, rfl, rfl⟩
    refine Ol.nil ?_
    refine Cd.cond rfl (fun h2 => ?_) (fun h2 => ?_)
    · refine Cd.seq ?_
      refine Cd.region ?_
      refine Ol.p mvi ?_
      refine Ol.p asi ?_
      refine Ol.nil ?_
      refine Cd.ret ⟨_, ret1 rfl rfl, [], .nil, ?_, rfl⟩
      rw [indexI_at hx h2 hno]
      rfl
    · refine Cd.skip ?_
      refine Cd.region ?_
      refine Ol.p addi ?_
      refine Ol.p mvi ?_
      refine Ol.nil ?_
      refine ⟨l.length - (k + 1), by omega, k + 1, rfl, by omega, ⟨rfl, rfl, rfl, rfl, trivial⟩, rfl, ?_⟩
      intro i y hi hy
      rcases Nat.lt_or_ge i k with h3 | h3
      · exact hno i y h3 hy
      · have : i = k := by omega
        subst this
        rw [hx] at hy
        cases hy
        exact h2
  · have hge : k = l.length := by
      simp only [decide_eq_false_iff_not] at h; omega
    subst hge
    refine Cd.exit (id := 0) ?_
    refine Cd.seq ?_
    refine Cd.region ?_
    refine Ol.p asi ?_
    refine Ol.nil ?_
    refine Cd.ret ⟨_, ret1 rfl rfl, [], .nil, ?_, rfl⟩
    rw [indexI_none hno]
    rfl
theorem slices_ContainsFunc_Block_ct {w : World} {A : Option Addr} {c : Nat} {l : List RBlk} {g : FuncId} {fst cap : Array Value} {p : RBlk → Bool} (hl : Reads w w.heap.size 5 A l.length (l.flatMap RBlk.cells)) (hb : l.length < 2 ^ 62) (hf : TellsG Try.prog w g fst cap l RBlk.val p) :
    Ct Try.prog 129 #[.slice A l.length c, .func (.func g) fst cap] w (Is (.bool (l.any p))) := by
  refine Ct.mk Try.func129 rfl rfl ?_
  refine Cd.seq ?_
  refine Cd.region ?_
  refine Ol.p asb ?_
  refine Ol.nil ?_
  refine Cd.seq ?_
  refine Cd.region ?_
  refine Ol.p mvs ?_
  refine Ol.p mvf ?_
  refine Ol.s (cl en_slices_IndexFunc_L_api_Block_api_Block (fun M w' hh => slices_IndexFunc_Block_ct (hl.now hh) hb ⟨hf.1, fun n hn w2 h2 => hf.2 n hn w2 (hh.below.trans (h2.mono hh.le))⟩)) ?_
  refine Ol.p gei ?_
  refine Ol.p asb ?_
  refine Ol.nil ?_
  refine Cd.ret ⟨.bool _, ret1 rfl rfl, [], .nil, ?_, rfl⟩
  rw [indexI_ge]
end
section
set_option maxHeartbeats 1000000 in
theorem ir_set_past_ct {w : World} {s : VS} {b : RBlk} (hb : BlkAt w b) : Ct Try.prog 135 #[.agg (encV s), b.val] w (fun v R => ∃ s', v = .tuple #[.agg (encV s'), .bool (okPast b.ins b.term s)] ∧ R = []) := by
  have hbl := hb.len
  refine Ct.mk Try.func135 rfl rfl ?_
  refine Cd.seq ?_
  refine Cd.region ?_
  refine Ol.x bxg ?_
  rintro _ _ ⟨g2, rfl, rfl⟩
  refine Ol.x bxg ?_
  rintro _ _ ⟨g3, rfl, rfl⟩
  refine Ol.x (alc zr_ir_set) ?_
  rintro _ _ ⟨g4, rfl, rfl⟩
  refine Ol.p asb ?_
  refine Ol.nil ?_
  refine Cd.seq ?_
  refine Cd.seq ?_
  refine Cd.region ?_
  refine Ol.p (fdl fd_api_Block_0) ?_
  refine Ol.p (ld one_L_api_Ins (Rd.blk (i := 1) rfl rfl)) ?_
  refine Ol.p (lens sl_L_api_Ins) ?_
  refine Ol.p mvi ?_
  refine Ol.nil ?_
  obtain ⟨Z, hZ⟩ : ∃ Z, Z = encV fun _ => false := ⟨_, rfl⟩
  refine Cd.block ?_   -- 0
  refine Cd.loop (fun m σ L => ∃ k s', m = b.ins.length - k ∧ k ≤ b.ins.length ∧ Has σ [(2, .pointer (some ⟨g2, 0, none⟩)), (3, .pointer (some ⟨g3, 0, none⟩)), (4, .pointer (some ⟨g4, 0, none⟩)), (9, .slice b.iA b.ins.length b.iC), (10, .int .i64 b.ins.length), (11, .int .i64 k)] ∧ [blk g4 (.cells Z 128), blk g3 (.cells b.cells.toArray 50), blk g2 (.cells (encV s') 128)] = L ∧ okPast (b.ins.drop k) b.term s' = okPast b.ins b.term s) (n := b.ins.length) ⟨0, s, rfl, Nat.zero_le _, ⟨rfl, rfl, rfl, rfl, rfl, rfl, trivial⟩, by rw [hZ, ← zeroV]; rfl, rfl⟩ ?_
  rintro _ σ L ⟨k, s', rfl, hk, hs, rfl, hok⟩
  refine Cd.has hs ?_
  refine Cd.seq ?_
  refine Cd.region ?_
  refine Ol.p lsi ?_
  refine Ol.nil ?_
  refine Cd.seq ?_
  refine Cd.cond rfl (fun h => ?_) (fun h => ?_)   -- $12
  · have hlt : k < b.ins.length := by
      simp only [decide_eq_true_eq] at h; omega
    obtain ⟨i, hi⟩ : ∃ i, b.ins[k]? = some i := ⟨_, List.getElem?_eq_getElem hlt⟩
    have him := List.mem_of_getElem? hi
    have hia := hb.all i him
    have hdr : b.ins.drop k = i :: b.ins.drop (k + 1) := by
      rw [List.drop_eq_getElem_cons hlt, (List.getElem?_eq_some_iff.1 hi).2]
    rw [hdr] at hok
    have hdef := defI_range i
    obtain ⟨dn, hdn⟩ : ∃ dn : Nat, defI i = (dn : Int) := ⟨(defI i).toNat, by omega⟩
    have hdn2 : dn < 201 := by omega
    have hrl := readsL_len i
    refine Cd.skip ?_
    refine Cd.seq ?_
    refine Cd.block ?_   -- 1
    refine Cd.seq ?_
    refine Cd.region ?_
    refine Ol.p (ixn sl_L_api_Ins (Som.slc hb.ins (by omega))) ?_
    refine Ol.p (lds (es := i.cells) ag_api_Ins hb.ins i.len (fun j u hu => ins_cell hi hu)) ?_
    refine Ol.x (alc zr_api_Ins) ?_
    rintro _ _ ⟨g7, rfl, rfl⟩
    refine Ol.s (stw sz_api_Ins rfl i.one (i := 0) rfl rfl) ?_
    refine Ol.nil ?_
    refine Cd.seq ?_
    refine Cd.seq ?_
    refine Cd.region ?_
    refine Ol.p (ldw ag_api_Ins (i := 0) rfl rfl) ?_
    refine Ol.x (sp_call en_ir_Reads (fun M w' hh => ir_Reads_ct (hia.now hh))) ?_
    rintro _ _ ⟨_, rfl, A16, c16, rfl, rfl⟩
    refine Ol.s (cl en_P_ir_set_has (fun M w' hh => P_ir_set_has_ct (setReads hh (i := 4) rfl) (Reads.row hh (i := 0) rfl) (by omega) (fun n hn => by have := readsL_mem hn; omega))) ?_
    refine Ol.p noti ?_
    refine Ol.nil ?_
    refine Cd.cond rfl (fun h2 => ?_) (fun h2 => ?_)   -- $18
    · have h3 : hasV s' (readsL i) = false := by simpa using h2
      refine Cd.seq ?_
      refine Cd.region ?_
      refine Ol.p (ldw ag_ir_set (i := 4) rfl (encV_size _)) ?_
      refine Ol.s (stw sz_ir_set (encV_size _) (encV_one _) (i := 2) rfl (by rw [hZ]; exact encV_size _)) ?_
      refine Ol.p asb ?_
      refine Ol.nil ?_
      refine Cd.ret ⟨.tuple _, retct rfl ag_ir_set rfl rfl (i := 2) rfl (encV_size _), [], .nil, s', ?_, rfl⟩
      rw [← hok]
      show _ = Value.tuple #[_, .bool (hasV s' (readsL i) && _)]
      rw [h3]; rfl
    have h3 : hasV s' (readsL i) = true := by simpa using h2
    have hok2 : okPast (b.ins.drop (k + 1)) b.term (putV s' dn true) = okPast b.ins b.term s := by
      rw [← hok]
      show _ = (hasV s' (readsL i) && okPast (b.ins.drop (k + 1)) b.term (putV s' (defI i).toNat true))
      rw [h3, hdn, Bool.true_and, Int.toNat_natCast]
    refine Cd.skip ?_
    refine Cd.region ?_
    refine Ol.p (ldw ag_api_Ins (i := 1) rfl rfl) ?_
    refine Ol.s (cl en_ir_Defines (fun M w' hh => ir_Defines_ct (hia.now hh))) ?_
    refine Ol.p (ixl1 (ix := dn) ar_ir_set (hy := congrArg (Value.int .i64) hdn)) ?_
    refine Ol.s (sto (k := dn) (.inr sz_bool) rfl rfl (i := 4) rfl (by rw [encV_size]; exact hdn2) rfl) ?_
    refine Ol.keep (.sub (.cons _ (.cons _ (List.Sublist.refl _)))) ?_
    refine Ol.nil ?_
    refine Cd.region ?_
    refine Ol.p addi ?_
    refine Ol.p mvi ?_
    refine Ol.nil ?_
    exact ⟨b.ins.length - (k + 1), by omega, k + 1, putV s' dn true, rfl, by omega, ⟨rfl, rfl, rfl, rfl, rfl, rfl, trivial⟩, congrArg (fun cs => [blk g4 (.cells Z 128), blk g3 (.cells b.cells.toArray 50), blk g2 (.cells cs 128)]) encV_set.symm, hok2⟩
  have hk2 : k = b.ins.length := by
    simp only [decide_eq_false_iff_not] at h; omega
  subst hk2
  rw [List.drop_length] at hok
  refine Cd.exit (id := 0) ?_
  refine Cd.seq ?_
  have hnl := needsL_len b.term
  refine Cd.draw mixed 5 (fun opNo => match opNo with | 3 => some (NewL 3 1 (needsL b.term).length (ints (needsL b.term))) | 4 => some (Is (.bool (hasV s' (needsL b.term)))) | _ => none) (fun opNo => match opNo with | 4 => [3] | _ => []) (by kernel_rfl) (by intro q V h; split at h <;> cases h; exact ⟨_, _, none, 0, rfl, rfl⟩; exact ⟨_, [], rfl, rfl⟩) (fun u hu => ?_)
  refine Wk.p (ldw ag_ir_set (i := 2) rfl (encV_size _)) ?_
  refine Wk.p (fdl fd_api_Block_1) ?_
  refine Wk.p (ldp (k := 0 + 1) (vs := b.term.cells.toArray) ag_api_Term (i := 1) rfl rfl (fun j u hu => by rw [Nat.zero_add, Nat.add_comm]; simpa [RBlk.cells] using hu)) ?_
  refine Wk.x (V := NewL 3 1 (needsL b.term).length (ints (needsL b.term))) hu (sp_call en_ir_Needs (fun M w' hh => ir_Needs_ct (t := b.term))) ?_
  rintro _ _ hu3 ⟨A27, c27, rfl, rfl⟩
  refine Wk.xn (V := Is (.bool (hasV s' (needsL b.term)))) hu (l := [3]) rfl (by simp) (by rw [needs_cons hu3, needs_none]; exact (sp_call en_P_ir_set_has (fun M w' hh => P_ir_set_has_ct (setReads hh (i := 3) rfl) (Reads.row hh (i := 0) rfl) (by omega) (fun n hn => by have := needsL_mem hn; omega)))) ?_
  rintro _ _ hu4 ⟨rfl, rfl⟩
  refine Wk.nil ?_
  rw [needs_cons hu4, needs_cons hu3, needs_none]
  refine Ol.s (stw sz_ir_set (encV_size _) (encV_one _) (i := 1) rfl (by rw [hZ]; exact encV_size _)) ?_
  refine Ol.p asb ?_
  refine Ol.nil ?_
  refine Cd.ret ⟨.tuple _, retct rfl ag_ir_set rfl rfl (i := 1) rfl (encV_size _), [], .nil, s', ?_, rfl⟩
  rw [← hok]; rfl
end
section
theorem RBlk.val_cells (b : RBlk) : b.val = .agg b.cells.toArray := rfl
theorem ir_long_1_ct {w : World} {b : RBlk} : Ct Try.prog 130 #[b.val] w (Is (.bool (decide (64 < b.ins.length)))) := by
  refine Ct.mk Try.func130 rfl rfl ?_
  refine Cd.seq ?_
  refine Cd.region ?_
  refine Ol.x bxg ?_
  rintro _ _ ⟨g1, rfl, rfl⟩
  refine Ol.p asb ?_
  refine Ol.nil ?_
  refine Cd.seq ?_
  refine Cd.region ?_
  refine Ol.p (fdl fd_api_Block_0) ?_
  refine Ol.p (ld one_L_api_Ins (Rd.blk (i := 0) rfl rfl)) ?_
  refine Ol.p (lens sl_L_api_Ins) ?_
  refine Ol.p gti ?_
  refine Ol.p asb ?_
  refine Ol.nil ?_
  refine Cd.ret ⟨.bool _, ret1 rfl rfl, [], .nil, ?_, rfl⟩
  congr 1
  rw [decide_eq_decide]; omega
set_option maxHeartbeats 1000000 in
theorem ir_long_ct {w : World} {f : RFun} (hf : FunAt w w.heap.size f) (hfit : Fit f) : Ct Try.prog 78 #[f.val] w (Is (.bool (longF f))) := by
  have hbl := hfit.blen
  have e1 : decide ((f.blocks.length : Int) = 0) = decide (f.blocks.length = 0) := by rw [decide_eq_decide]; omega
  have e2 : decide ((200 : Int) < (f.blocks.length : Int)) = decide (200 < f.blocks.length) := by rw [decide_eq_decide]; omega
  have e3 : decide ((8 : Int) < (f.params.length : Int)) = decide (8 < f.params.length) := by rw [decide_eq_decide]; omega
  have e : longF f = (decide (f.blocks.length = 0) || decide (200 < f.blocks.length) || decide (8 < f.params.length) || f.blocks.any fun b => decide (64 < b.ins.length)) := rfl
  refine Ct.mk Try.func78 rfl rfl ?_
  refine Cd.seq ?_
  refine Cd.region ?_
  refine Ol.x bxg ?_
  rintro _ _ ⟨g1, rfl, rfl⟩
  refine Ol.p asb ?_
  refine Ol.nil ?_
  refine Cd.seq ?_
  cases c1 : decide (f.blocks.length = 0) with
  | true =>
    refine Cd.region ?_
    refine Ol.p (fdl fd_api_Func_1) ?_
    refine Ol.p (ld one_L_api_Block (Rd.blk (i := 0) rfl rfl)) ?_
    refine Ol.p (lens sl_L_api_Block) ?_
    refine Ol.p eqi ?_
    refine Ol.p mvb ?_
    refine Ol.gn (e1.trans c1) ?_
    refine Ol.gn (e1.trans c1) ?_
    refine Ol.gn (e1.trans c1) ?_
    refine Ol.gn (e1.trans c1) ?_
    refine Ol.p (pkTb (e1.trans c1)) ?_
    refine Ol.p mvb ?_
    refine Ol.gn rfl ?_
    refine Ol.gn rfl ?_
    refine Ol.gn rfl ?_
    refine Ol.gn rfl ?_
    refine Ol.p (pkTb rfl) ?_
    refine Ol.p mvb ?_
    refine Ol.gn rfl ?_
    refine Ol.gn rfl ?_
    refine Ol.gn rfl ?_
    refine Ol.p (pkTb rfl) ?_
    refine Ol.p asb ?_
    refine Ol.nil ?_
    exact Cd.ret ⟨.bool _, ret1 rfl rfl, [], .nil, by rw [e, c1]; rfl, rfl⟩
  | false =>
  cases c2 : decide (200 < f.blocks.length) with
  | true =>
    refine Cd.region ?_
    refine Ol.p (fdl fd_api_Func_1) ?_
    refine Ol.p (ld one_L_api_Block (Rd.blk (i := 0) rfl rfl)) ?_
    refine Ol.p (lens sl_L_api_Block) ?_
    refine Ol.p eqi ?_
    refine Ol.p mvb ?_
    refine Ol.gp (e1.trans c1) (fdl fd_api_Func_1) ?_
    refine Ol.gp (e1.trans c1) (ld one_L_api_Block (Rd.blk (i := 0) rfl rfl)) ?_
    refine Ol.gp (e1.trans c1) (lens sl_L_api_Block) ?_
    refine Ol.gp (e1.trans c1) gti ?_
    refine Ol.p (pkFb (e1.trans c1)) ?_
    refine Ol.p mvb ?_
    refine Ol.gn (e2.trans c2) ?_
    refine Ol.gn (e2.trans c2) ?_
    refine Ol.gn (e2.trans c2) ?_
    refine Ol.gn (e2.trans c2) ?_
    refine Ol.p (pkTb (e2.trans c2)) ?_
    refine Ol.p mvb ?_
    refine Ol.gn rfl ?_
    refine Ol.gn rfl ?_
    refine Ol.gn rfl ?_
    refine Ol.p (pkTb rfl) ?_
    refine Ol.p asb ?_
    refine Ol.nil ?_
    exact Cd.ret ⟨.bool _, ret1 rfl rfl, [], .nil, by rw [e, c1, c2]; rfl, rfl⟩
  | false =>
  cases c3 : decide (8 < f.params.length) with
  | true =>
    refine Cd.region ?_
    refine Ol.p (fdl fd_api_Func_1) ?_
    refine Ol.p (ld one_L_api_Block (Rd.blk (i := 0) rfl rfl)) ?_
    refine Ol.p (lens sl_L_api_Block) ?_
    refine Ol.p eqi ?_
    refine Ol.p mvb ?_
    refine Ol.gp (e1.trans c1) (fdl fd_api_Func_1) ?_
    refine Ol.gp (e1.trans c1) (ld one_L_api_Block (Rd.blk (i := 0) rfl rfl)) ?_
    refine Ol.gp (e1.trans c1) (lens sl_L_api_Block) ?_
    refine Ol.gp (e1.trans c1) gti ?_
    refine Ol.p (pkFb (e1.trans c1)) ?_
    refine Ol.p mvb ?_
    refine Ol.gp (e2.trans c2) (fdl fd_api_Func_0) ?_
    refine Ol.gp (e2.trans c2) (ld one_L_int (Rd.blk (i := 0) rfl rfl)) ?_
    refine Ol.gp (e2.trans c2) (lens sl_L_int) ?_
    refine Ol.gp (e2.trans c2) gti ?_
    refine Ol.p (pkFb (e2.trans c2)) ?_
    refine Ol.p mvb ?_
    refine Ol.gn (e3.trans c3) ?_
    refine Ol.gn (e3.trans c3) ?_
    refine Ol.gn (e3.trans c3) ?_
    refine Ol.p (pkTb (e3.trans c3)) ?_
    refine Ol.p asb ?_
    refine Ol.nil ?_
    exact Cd.ret ⟨.bool _, ret1 rfl rfl, [], .nil, by rw [e, c1, c2, c3]; rfl, rfl⟩
  | false =>
    refine Cd.region ?_
    refine Ol.p (fdl fd_api_Func_1) ?_
    refine Ol.p (ld one_L_api_Block (Rd.blk (i := 0) rfl rfl)) ?_
    refine Ol.p (lens sl_L_api_Block) ?_
    refine Ol.p eqi ?_
    refine Ol.p mvb ?_
    refine Ol.gp (e1.trans c1) (fdl fd_api_Func_1) ?_
    refine Ol.gp (e1.trans c1) (ld one_L_api_Block (Rd.blk (i := 0) rfl rfl)) ?_
    refine Ol.gp (e1.trans c1) (lens sl_L_api_Block) ?_
    refine Ol.gp (e1.trans c1) gti ?_
    refine Ol.p (pkFb (e1.trans c1)) ?_
    refine Ol.p mvb ?_
    refine Ol.gp (e2.trans c2) (fdl fd_api_Func_0) ?_
    refine Ol.gp (e2.trans c2) (ld one_L_int (Rd.blk (i := 0) rfl rfl)) ?_
    refine Ol.gp (e2.trans c2) (lens sl_L_int) ?_
    refine Ol.gp (e2.trans c2) gti ?_
    refine Ol.p (pkFb (e2.trans c2)) ?_
    refine Ol.p mvb ?_
    refine Ol.gp (e3.trans c3) (fdl fd_api_Func_1) ?_
    refine Ol.gp (e3.trans c3) (ld one_L_api_Block (Rd.blk (i := 0) rfl rfl)) ?_
    refine Ol.gs (e3.trans c3) (cl en_slices_ContainsFunc_L_api_Block_api_Block (fun M w' hh => slices_ContainsFunc_Block_ct (g := 130) (fst := #[]) (cap := #[]) (p := fun b => decide (64 < b.ins.length)) ((hf.now hh).blocks) (by omega) ⟨en_ir_long_1, fun b hb w2 h2 => ir_long_1_ct⟩)) ?_
    refine Ol.p (pkFb (e3.trans c3)) ?_
    refine Ol.p asb ?_
    refine Ol.nil ?_
    exact Cd.ret ⟨.bool _, ret1 rfl rfl, [], .nil, by rw [e, c1, c2, c3]; rfl, rfl⟩
end
section
theorem ir_whole_1_ct {w : World} {i : RIns} (hi : InsAt w i) : Ct Try.prog 132 #[i.val] w (Is (.bool (!isIns i))) := by
  refine Ct.mk Try.func132 rfl rfl ?_
  refine Cd.seq ?_
  refine Cd.region ?_
  refine Ol.x bxg ?_
  rintro _ _ ⟨g1, rfl, rfl⟩
  refine Ol.p asb ?_
  refine Ol.nil ?_
  refine Cd.seq ?_
  refine Cd.region ?_
  refine Ol.p (ldw ag_api_Ins (i := 0) rfl rfl) ?_
  refine Ol.s (cl en_ir_IsIns (fun M w' hh => ir_IsIns_ct (hi.now hh))) ?_
  refine Ol.p noti ?_
  refine Ol.p asb ?_
  refine Ol.nil ?_
  exact Cd.ret ⟨.bool _, ret1 rfl rfl, [], .nil, rfl, rfl⟩
theorem InsAt.below {w w' : World} {i : RIns} (h : InsAt w i) (hb : Below w.heap.size w w') : InsAt w' i := ⟨(h.args.below hb).more hb.size, h.len, h.callee⟩
end
end Go.Proofs.Ytcojedoejpcolaa

/- The package ir: whole functions, walked. -/
namespace Go.Proofs.Ytcojedoejpcolaa
set_option linter.unusedVariables false
open Go Go.RowKit
set_option maxRecDepth 100000

theorem ints_at {l : List Int} {k : Nat} {n : Int} (h : l[k]? = some n) : (ints l)[k]? = some (.int .i64 n) := by simp [ints, h]
def seenV (l : List Int) : VS := fun j => decide ((j : Int) ∈ l)
theorem whole_split (f : RFun) : wholeF f = (f.params.all varB && decide f.params.Nodup && f.blocks.all wholeB) := rfl
theorem nodup_snoc {l : List Int} {n : Int} (h : l.Nodup) (hn : n ∉ l) : (l ++ [n]).Nodup := by
  rw [List.nodup_append]
  refine ⟨h, by simp, fun a ha b hb => ?_⟩
  have : b = n := by simpa using hb
  subst this
  exact fun e => hn (e ▸ ha)
section
set_option maxHeartbeats 2000000 in
theorem ir_whole_ct {w : World} {f : RFun} (hf : FunAt w w.heap.size f) (hfit : Fit f) : Ct Try.prog 79 #[f.val] w (Is (.bool (wholeF f))) := by
  have hbl := hfit.blen
  have hpl := hfit.plen
  refine Ct.mk Try.func79 rfl rfl ?_
  refine Cd.seq ?_
  refine Cd.region ?_
  refine Ol.x bxg ?_
  rintro _ _ ⟨g1, rfl, rfl⟩
  refine Ol.p asb ?_
  refine Ol.nil ?_
  refine Cd.seq ?_
  refine Cd.region ?_
  refine Ol.x (alc zr_ir_set) ?_
  rintro _ _ ⟨g3, rfl, rfl⟩
  refine Ol.nil ?_
  refine Cd.mid (fun σ' L' => ∃ Z, (f.params.all varB = true ∧ f.params.Nodup) ∧ Has σ' [(1, .pointer (some ⟨g1, 0, none⟩))] ∧ [blk g3 (.cells Z 128), blk g1 (.cells f.cells.toArray 43)] = L') ?_ ?_
  · refine Cd.seq ?_
    refine Cd.region ?_
    refine Ol.p (fdl fd_api_Func_0) ?_
    refine Ol.p (ld one_L_int (Rd.blk (i := 1) rfl rfl)) ?_
    refine Ol.p (lens sl_L_int) ?_
    refine Ol.p mvi ?_
    refine Ol.nil ?_
    refine Cd.block ?_   -- 0
    refine Cd.loop (fun m σ L => ∃ k, m = f.params.length - k ∧ k ≤ f.params.length ∧ Has σ [(1, .pointer (some ⟨g1, 0, none⟩)), (3, .pointer (some ⟨g3, 0, none⟩)), (9, .slice f.pA f.params.length f.pC), (10, .int .i64 f.params.length), (11, .int .i64 k)] ∧ [blk g3 (.cells (encV (seenV (f.params.take k))) 128), blk g1 (.cells f.cells.toArray 43)] = L ∧ (∀ n ∈ f.params.take k, varB n = true) ∧ (f.params.take k).Nodup) (n := f.params.length) ⟨0, rfl, Nat.zero_le _, ⟨rfl, rfl, rfl, rfl, rfl, trivial⟩, by rw [show encV (seenV (f.params.take 0)) = encV fun _ => false from encV_congr fun i _ => by simp [seenV], ← zeroV]; rfl, by simp, by simp⟩ ?_
    rintro _ σ L ⟨k, rfl, hk, hs, rfl, hv, hnd⟩
    refine Cd.has hs ?_
    refine Cd.seq ?_
    refine Cd.region ?_
    refine Ol.p lsi ?_
    refine Ol.nil ?_
    refine Cd.seq ?_
    refine Cd.cond rfl (fun h => ?_) (fun h => ?_)   -- $12
    · have hlt : k < f.params.length := by
        simp only [decide_eq_true_eq] at h; omega
      obtain ⟨p, hp⟩ : ∃ p, f.params[k]? = some p := ⟨_, List.getElem?_eq_getElem hlt⟩
      have hpm := List.mem_of_getElem? hp
      refine Cd.skip ?_
      refine Cd.seq ?_
      refine Cd.block ?_   -- 1
      refine Cd.seq ?_
      refine Cd.region ?_
      refine Ol.p (ixn1 (ix := k) sl_L_int (Som.slc hf.params (by omega))) ?_
      refine Ol.p (ld one_int (Rd.slc hf.params (ints_at hp))) ?_
      refine Ol.p asi ?_
      refine Ol.nil ?_
      cases hvp : varB p with
      | false =>
        have hg : (!varB p) = true := by rw [hvp]; rfl
        refine Cd.seq ?_
        refine Cd.seq ?_
        refine Cd.region ?_
        refine Ol.p mvi ?_
        refine Ol.s (cl en_ir_variable (fun M w' hh => ir_variable_ct)) ?_
        refine Ol.p noti ?_
        refine Ol.p mvb ?_
        refine Ol.gn hg ?_
        refine Ol.gn hg ?_
        refine Ol.gn hg ?_
        refine Ol.p (pkTb hg) ?_
        refine Ol.nil ?_
        refine Cd.cond rfl (fun h => ?_) (fun h => by cases h)   -- $22
        refine Cd.seq ?_
        refine Cd.region ?_
        refine Ol.p asb ?_
        refine Ol.nil ?_
        refine Cd.ret ⟨.bool _, ret1 rfl rfl, [], .nil, ?_, rfl⟩
        have : f.params.all varB = false := by
          rw [List.all_eq_false]
          exact ⟨p, hpm, by rw [hvp]; simp⟩
        rw [whole_split, this]; rfl
      | true =>
        have hg : (!varB p) = false := by rw [hvp]; rfl
        have hpr := varB_iff.1 hvp
        obtain ⟨m, rfl⟩ : ∃ m : Nat, p = (m : Int) := ⟨p.toNat, by omega⟩
        have hm : m < 201 := by omega
        refine Cd.seq ?_
        refine Cd.seq ?_
        refine Cd.region ?_
        refine Ol.p mvi ?_
        refine Ol.s (cl en_ir_variable (fun M w' hh => ir_variable_ct)) ?_
        refine Ol.p noti ?_
        refine Ol.p mvb ?_
        refine Ol.gp hg mvi ?_
        refine Ol.gp hg (ixl1 (ix := m) ar_ir_set) ?_
        refine Ol.gp hg (ld one_bool (Rd.blk (i := 0) rfl (encV_get hm))) ?_
        refine Ol.p (pkFb hg) ?_
        refine Ol.nil ?_
        refine Cd.cond rfl (fun h => ?_) (fun h => ?_)   -- $22
        · refine Cd.seq ?_
          refine Cd.region ?_
          refine Ol.p asb ?_
          refine Ol.nil ?_
          refine Cd.ret ⟨.bool _, ret1 rfl rfl, [], .nil, ?_, rfl⟩
          have hmem : (m : Int) ∈ f.params.take k := by simpa [seenV] using h
          have : decide f.params.Nodup = false := by
            rw [decide_eq_false_iff_not]
            intro hN
            rw [← List.take_append_drop k f.params, List.nodup_append] at hN
            exact hN.2.2 _ hmem _ (List.mem_of_getElem? (i := 0) (by rw [List.getElem?_drop]; exact hp)) rfl
          rw [whole_split, this, Bool.and_false]; rfl
        have hmem : (m : Int) ∉ f.params.take k := by simpa [seenV] using h
        refine Cd.skip ?_
        refine Cd.region ?_
        refine Ol.p mvi ?_
        refine Ol.p (ixl1 (ix := m) ar_ir_set) ?_
        refine Ol.s (sto (k := m) (.inr sz_bool) rfl rfl (i := 0) rfl (by rw [encV_size]; exact hm) rfl) ?_
        refine Ol.nil ?_
        refine Cd.region ?_
        refine Ol.p addi ?_
        refine Ol.p mvi ?_
        refine Ol.nil ?_
        have e : (encV (seenV (f.params.take k))).setIfInBounds m (.bool true) = encV (seenV (f.params.take (k + 1))) := encV_put fun j hj => by
          unfold putV seenV
          rw [take_snoc_ hp]
          by_cases e : j = m
          · subst e; simp
          · have : ¬ (j : Int) = (m : Int) := by omega
            simp [e, this]
        refine ⟨f.params.length - (k + 1), by omega, k + 1, rfl, by omega, ⟨rfl, rfl, rfl, rfl, rfl, trivial⟩, congrArg (fun cs => [blk g3 (.cells cs 128), blk g1 (.cells f.cells.toArray 43)]) e.symm, ?_, ?_⟩
        · rw [take_snoc_ hp]
          intro n hn
          rcases List.mem_append.1 hn with h1 | h1
          · exact hv n h1
          · have : n = (m : Int) := by simpa using h1
            rw [this]; exact hvp
        · rw [take_snoc_ hp]
          exact nodup_snoc hnd hmem
    have hk2 : k = f.params.length := by
      simp only [decide_eq_false_iff_not] at h; omega
    subst hk2
    rw [List.take_length] at hv hnd
    refine Cd.exit (id := 0) ?_
    exact ⟨_, ⟨by rw [List.all_eq_true]; exact hv, hnd⟩, ⟨rfl, trivial⟩, rfl⟩
  rintro σ' _ ⟨Z, ⟨hv, hnd⟩, hs', rfl⟩
  refine Cd.has hs' ?_
  have hsplit : wholeF f = f.blocks.all wholeB := by
    rw [whole_split, hv, decide_eq_true hnd]; rfl
  refine Cd.seq ?_
  refine Cd.seq ?_
  refine Cd.region ?_
  refine Ol.p (fdl fd_api_Func_1) ?_
  refine Ol.p (ld one_L_api_Block (Rd.blk (i := 1) rfl rfl)) ?_
  refine Ol.p (lens sl_L_api_Block) ?_
  refine Ol.p mvi ?_
  refine Ol.nil ?_
  refine Cd.block ?_   -- 2
  refine Cd.loop (fun m σ L => ∃ k, m = f.blocks.length - k ∧ k ≤ f.blocks.length ∧ Has σ [(1, .pointer (some ⟨g1, 0, none⟩)), (27, .slice f.bA f.blocks.length f.bC), (28, .int .i64 f.blocks.length), (29, .int .i64 k)] ∧ [blk g3 (.cells Z 128), blk g1 (.cells f.cells.toArray 43)] = L ∧ ∀ b ∈ f.blocks.take k, wholeB b = true) (n := f.blocks.length) ⟨0, rfl, Nat.zero_le _, ⟨rfl, rfl, rfl, rfl, trivial⟩, rfl, by simp⟩ ?_
  rintro _ σ L ⟨k, rfl, hk, hs, rfl, hw⟩
  refine Cd.has hs ?_
  refine Cd.seq ?_
  refine Cd.region ?_
  refine Ol.p lsi ?_
  refine Ol.nil ?_
  refine Cd.seq ?_
  refine Cd.cond rfl (fun h => ?_) (fun h => ?_)   -- $30
  · have hlt : k < f.blocks.length := by
      simp only [decide_eq_true_eq] at h; omega
    obtain ⟨b, hb⟩ : ∃ b, f.blocks[k]? = some b := ⟨_, List.getElem?_eq_getElem hlt⟩
    have hbm := List.mem_of_getElem? hb
    have hba := hf.blk hfit hbm
    have hbl2 := hba.len
    have hno : wholeB b = false → wholeF f = false := fun h0 => by
      rw [hsplit, List.all_eq_false]
      exact ⟨b, hbm, by rw [h0]; simp⟩
    refine Cd.skip ?_
    refine Cd.seq ?_
    refine Cd.block ?_   -- 3
    refine Cd.seq ?_
    refine Cd.region ?_
    refine Ol.p (ixn sl_L_api_Block (Som.slc hf.blocks (by omega))) ?_
    refine Ol.p (lds (es := b.cells) ag_api_Block hf.blocks b.len (fun j u hu => blk_cell hb hu)) ?_
    refine Ol.x (alc zr_api_Block) ?_
    rintro _ _ ⟨g7, rfl, rfl⟩
    refine Ol.s (stw sz_api_Block rfl b.one (i := 0) rfl rfl) ?_
    refine Ol.nil ?_
    refine Cd.seq ?_
    cases ht : isTerm b.term with
    | false =>
      have hg : (!isTerm b.term) = true := by rw [ht]; rfl
      refine Cd.region ?_
      refine Ol.p (fdl fd_api_Block_1) ?_
      refine Ol.p (ldp (k := 0 + 1) (vs := b.term.cells.toArray) ag_api_Term (i := 0) rfl rfl (fun j u hu => by rw [Nat.zero_add, Nat.add_comm]; simpa [RBlk.cells] using hu)) ?_
      refine Ol.s (cl en_ir_IsTerm (fun M w' hh => ir_IsTerm_ct (t := b.term))) ?_
      refine Ol.p noti ?_
      refine Ol.p mvb ?_
      refine Ol.gn hg ?_
      refine Ol.gn hg ?_
      refine Ol.gn hg ?_
      refine Ol.p (pkTb hg) ?_
      refine Ol.nil ?_
      refine Cd.cond rfl (fun h => ?_) (fun h => by cases h)   -- $41
      refine Cd.seq ?_
      refine Cd.region ?_
      refine Ol.p asb ?_
      refine Ol.nil ?_
      refine Cd.ret ⟨.bool _, ret1 rfl rfl, [], .nil, ?_, rfl⟩
      rw [hno (by unfold wholeB; rw [ht]; rfl)]
    | true =>
      have hg : (!isTerm b.term) = false := by rw [ht]; rfl
      refine Cd.region ?_
      refine Ol.p (fdl fd_api_Block_1) ?_
      refine Ol.p (ldp (k := 0 + 1) (vs := b.term.cells.toArray) ag_api_Term (i := 0) rfl rfl (fun j u hu => by rw [Nat.zero_add, Nat.add_comm]; simpa [RBlk.cells] using hu)) ?_
      refine Ol.s (cl en_ir_IsTerm (fun M w' hh => ir_IsTerm_ct (t := b.term))) ?_
      refine Ol.p noti ?_
      refine Ol.p mvb ?_
      refine Ol.gp hg (fdl fd_api_Block_0) ?_
      refine Ol.gp hg (ld one_L_api_Ins (Rd.blk (i := 0) rfl rfl)) ?_
      refine Ol.gs hg (cl en_slices_ContainsFunc_L_api_Ins_api_Ins (fun M w' hh => slices_ContainsFunc_Ins_ct (g := 132) (fst := #[]) (cap := #[]) (p := fun i => !isIns i) ((hba.now hh).ins) (by omega) ⟨en_ir_whole_1, fun i hi w2 h2 => ir_whole_1_ct (((hba.now hh).all i hi).below h2)⟩)) ?_
      refine Ol.p (pkFb hg) ?_
      refine Ol.nil ?_
      refine Cd.cond rfl (fun h => ?_) (fun h => ?_)   -- $41
      · refine Cd.seq ?_
        refine Cd.region ?_
        refine Ol.p asb ?_
        refine Ol.nil ?_
        refine Cd.ret ⟨.bool _, ret1 rfl rfl, [], .nil, ?_, rfl⟩
        rw [hno ?_]
        unfold wholeB
        rw [ht, Bool.true_and, List.all_eq_false]
        rw [List.any_eq_true] at h
        obtain ⟨i, hi, h3⟩ := h
        exact ⟨i, hi, by simpa using h3⟩
      have hwb : wholeB b = true := by
        unfold wholeB
        rw [ht, Bool.true_and, List.all_eq_true]
        rw [List.any_eq_false] at h
        intro i hi
        have := h i hi
        simpa using this
      refine Cd.keep (.sub (.cons _ (List.Sublist.refl _))) ?_
      refine Cd.skip ?_
      refine Cd.region ?_
      refine Ol.p addi ?_
      refine Ol.p mvi ?_
      refine Ol.nil ?_
      refine ⟨f.blocks.length - (k + 1), by omega, k + 1, rfl, by omega, ⟨rfl, rfl, rfl, rfl, trivial⟩, rfl, ?_⟩
      rw [take_snoc_ hb]
      intro x hx
      rcases List.mem_append.1 hx with h1 | h1
      · exact hw x h1
      · have : x = b := by simpa using h1
        rw [this]; exact hwb
  have hk2 : k = f.blocks.length := by
    simp only [decide_eq_false_iff_not] at h; omega
  subst hk2
  rw [List.take_length] at hw
  refine Cd.exit (id := 2) ?_
  refine Cd.seq ?_
  refine Cd.region ?_
  refine Ol.p asb ?_
  refine Ol.nil ?_
  refine Cd.ret ⟨.bool _, ret1 rfl rfl, [], .nil, ?_, rfl⟩
  have : f.blocks.all wholeB = true := by rw [List.all_eq_true]; exact hw
  rw [hsplit, this]
end
end Go.Proofs.Ytcojedoejpcolaa

/- A slice that starts somewhere in a block of one's own, and grows at its end: append. Over any program. -/
namespace Go.Proofs.Ytcojedoejpcolaa
set_option linter.unusedVariables false
open Go Go.RowKit

def Queue (i e n : Nat) (xs : List Value) (L : List Res) : Value → List Res → Prop := fun v L' => ∃ g off c cs, v = .slice (some ⟨g, off, none⟩) n c ∧ L' = L.set i (blk g (.cells cs e)) ∧ off + c ≤ cs.size ∧ n ≤ c ∧ ∀ j u, xs[j]? = some u → cs[off + j]? = some u
section
variable {P : Program} {w0 : World} {B : Nat} {σ : Env} {L : List Res} {d : Option Nat} {ty T : TypeId} {pos : String} {af : Array Edge} {gd : Option (Nat × Bool)} {x y : Operand}
theorem apq {i g off n c b m c2 e : Nat} {A2 : Option Addr} {cs : Array Value} {xs ys : List Value} {zv : Value} (hT : SlT P T e 1 b) (hz : ZrT P e zv) (hzs : zv.cells.size = 1) (hi : L[i]? = some (blk g (.cells cs e))) (hsz : off + c ≤ cs.size) (hnc : n ≤ c) (hxl : xs.length = n)
    (hold : ∀ j u, xs[j]? = some u → cs[off + j]? = some u) (hsrc : Src w0 B L A2 m 1 ys) (h1 : ∀ u ∈ ys, u.oneCell' = true) (hml : n + m ≤ maxLen) (hby : (n + m) * b ≤ 140737488355328) (hx : ev σ x = .slice (some ⟨g, off, none⟩) n c := by exact rfl) (hy : ev σ y = .slice A2 m c2 := by exact rfl) :
    Sp P w0 B ⟨d, .call { callee := .builtin .append, args := #[x, y], argTypes := #[T, T] }, ty, pos, af, gd⟩ σ L (Queue i e (n + m) (xs ++ ys) L) := fun M w hh => by
  obtain ⟨inf, hi1, he⟩ := info_of hT.2
  simp only [Prod.mk.injEq] at he
  obtain ⟨i2, hi2, hz2⟩ := info_of hz
  rw [hi1] at hi2
  cases hi2
  have hg : w.heap[g]? = some (.cells cs e (0, 0)) := hh.at_ hi
  have hyl : ys.length = m := by have := hsrc.1; omega
  have key : ∃ v' w', (Builtin.append_ #[T, T] ty #[.slice (some ⟨g, off, none⟩) n c, .slice A2 m c2]).run P w = .ok v' w' ∧ Stp (fun k => k = g) w w' ∧ ∃ g' off' c' cs', v' = .slice (some ⟨g', off', none⟩) (n + m) c' ∧ w'.heap[g']? = some (.cells cs' e (0, 0)) ∧ (g' = g ∨ (w.heap.size ≤ g' ∧ g' < w'.heap.size)) ∧ off' + c' ≤ cs'.size ∧ n + m ≤ c' ∧ ∀ j u, (xs ++ ys)[j]? = some u → cs'[off' + j]? = some u := by
    rcases hsrc.2 M w hh with ⟨rfl, rfl⟩ | ⟨a, rfl, hc⟩
    · have hy0 : ys = [] := List.eq_nil_of_length_eq_zero hyl
      subst hy0
      refine ⟨.slice (some ⟨g, off, none⟩) n c, w, ?_, Stp.refl _ _, g, off, c, cs, rfl, hg, .inl rfl, hsz, hnc, by simpa using hold⟩
      simp [Builtin.append_, run_underlying hT.1, sizeOf, typeInfo, hi1, Builtin.lenOf, Builtin.firstCells, hnc, storeCells]
    · by_cases hroom : n + m ≤ c
      · have hfc := run_firstCells_some (P := P) w inf.size m a m c2 ys (by rw [he.1]; exact hsrc.1) hc
        obtain ⟨w', hst, hstp, hg'⟩ := run_storeCells_all (P := P) (g := g) (e := e) ys (off + n * inf.size) 0 cs w hg (by rw [he.1]; omega) h1
        simp only [Nat.add_zero] at hst hg'
        refine ⟨.slice (some ⟨g, off, none⟩) (n + m) c, w', ?_, hstp, g, off, c, _, rfl, hg', .inl rfl, ?_, hroom, ?_⟩
        · simp [Builtin.append_, run_underlying hT.1, sizeOf, typeInfo, hi1, Builtin.lenOf, hroom, hfc, Addr.add_lit, hst]
        · simp only [List.size_toArray, List.length_append, List.length_take, List.length_drop, Array.length_toList, he.1]
          omega
        · intro j u hu
          simp only [he.1, Nat.mul_one, List.getElem?_toArray]
          have htl : (cs.toList.take (off + n)).length = off + n := by simp; omega
          rcases Nat.lt_or_ge j n with hj | hj
          · rw [List.getElem?_append_left (by omega)] at hu
            rw [List.append_assoc, List.getElem?_append_left (by omega), List.getElem?_take, if_pos (by omega), Array.getElem?_toList]
            exact hold j u hu
          · rw [List.getElem?_append_right (by omega)] at hu
            have hjl := (List.getElem?_eq_some_iff.1 hu).1
            rw [List.append_assoc, List.getElem?_append_right (by omega), htl, List.getElem?_append_left (by omega)]
            rw [show off + j - (off + n) = j - xs.length by omega]
            exact hu
      · have holds : ∀ j u, xs[j]? = some u → w.cell? ((⟨g, off, none⟩ : Addr).add j) = some u := fun j u hu => by
          rw [Addr.add_lit, cell_of_row w g (off + j) cs e (0, 0) hg]
          exact hold j u hu
        obtain ⟨v', w', hr, hown, hgr⟩ := run_append_arg_grows (P := P) w T ty e inf zv 1 b hT.1 hi1 hz2 he.1 he.2 hzs (by decide) ⟨g, off, none⟩ n c xs (by omega) holds a m c2 ys hsrc.1 hc (by omega) hml hby
        rcases hown.2 with ⟨rfl, h0⟩ | ⟨g', cap, cur, rfl, hb', hg', hnc', _, hcs, htake⟩
        · omega
        · refine ⟨_, w', hr, (Stp.of_grown hgr).mono (fun k _ hk => by cases hk), g', 0, cap, cur, rfl, hg', .inr ⟨hb', ?_⟩, by omega, hnc', ?_⟩
          · exact (Array.getElem?_eq_some_iff.1 hg').1
          · intro j u hu
            have hj := (List.getElem?_eq_some_iff.1 hu).1
            have : (cur.toList.take ((n + m) * 1))[j]? = some u := by rw [htake]; exact hu
            rw [List.getElem?_take] at this
            split at this
            · rw [Nat.zero_add]; simpa using this
            · cases this
  obtain ⟨v', w', hr, hstp, g', off', c', cs', rfl, hg', hgg, h2, h3, h4⟩ := key
  refine .inl ⟨_, w', ?_, _, hh.set (r' := blk g' (.cells cs' e)) hi hstp hg' (fun k hk => ?_), g', off', c', cs', rfl, rfl, h2, h3, h4⟩
  · simp [execOp, hx, hy, resolve, invoke, builtin, hr]
  · rcases hgg with e1 | e1
    · left
      have : k = g' := hk
      show k = g
      omega
    · right
      have : k = g' := hk
      omega
end
end Go.Proofs.Ytcojedoejpcolaa

/- The package ir: which blocks are reached, walked. -/
namespace Go.Proofs.Ytcojedoejpcolaa
set_option linter.unusedVariables false
open Go Go.RowKit
set_option maxRecDepth 100000

theorem intsN_one' (l : List Nat) : ∀ u ∈ intsN l, u.oneCell' = true := by
  intro u hu
  unfold intsN at hu
  rw [List.mem_map] at hu
  obtain ⟨_, _, rfl⟩ := hu
  rfl
theorem slq {P : Program} {w0 : World} {B : Nat} {σ : Env} {L : List Res} {d : Option Nat} {ty T : TypeId} {pos : String} {af : Array Edge} {gd : Option (Nat × Bool)} {x y : Operand} {g off off' n c e b : Nat} {k : IntKind} (hT : SlT P T e 1 b) (hl : 1 ≤ n) (ho : off' = if c = 1 then off else off + 1) (hx : ev σ x = .slice (some ⟨g, off, none⟩) n c := by exact rfl) (hy : ev σ y = .int k ((1 : Nat) : Int) := by exact rfl) :
    Sd P w0 B ⟨d, .slice T x (some y) none none, ty, pos, af, gd⟩ σ L (.slice (some ⟨g, off', none⟩) (n - 1) (c - 1)) := by
  have := sll (d := d) (ty := ty) (pos := pos) (af := af) (gd := gd) (P := P) (w0 := w0) (B := B) (L := L) (l := 1) hT hl hx hy
  have e : (if c = 1 then (some ⟨g, off, none⟩ : Option Addr) else (some ⟨g, off, none⟩ : Option Addr).map (·.add (1 * 1))) = some ⟨g, off', none⟩ := by
    rw [ho]
    by_cases e : c = 1 <;> simp [e, add_lit_]
  rwa [e] at this
section
set_option maxHeartbeats 4000000 in
theorem ir_reach_ct {w : World} {f : RFun} (hf : FunAt w w.heap.size f) (hfit : Fit f) (h0 : 0 < f.blocks.length) (h200 : f.blocks.length ≤ 200) :
    Ct Try.prog 80 #[f.val] w (Is (.tuple (bif okEs f.terms then #[.int .i64 ((orderF f.terms).length : Nat), .bool true] else #[.int .i64 0, .bool false]))) := by
  have htl : f.terms.length = f.blocks.length := by simp [RFun.terms]
  refine Ct.mk Try.func80 rfl rfl ?_
  refine Cd.seq ?_
  refine Cd.region ?_
  refine Ol.x bxg ?_
  rintro _ _ ⟨g1, rfl, rfl⟩
  refine Ol.p asi ?_
  refine Ol.p asb ?_
  refine Ol.nil ?_
  refine Cd.seq ?_
  refine Cd.region ?_
  refine Ol.p (fdl fd_api_Func_1) ?_
  refine Ol.p (ld one_L_api_Block (Rd.blk (i := 0) rfl rfl)) ?_
  refine Ol.p (lens sl_L_api_Block) ?_
  refine Ol.x (mks (n := f.blocks.length) (c := f.blocks.length) sl_L_bool zr_bool) ?_
  rintro _ _ ⟨gs, rfl, rfl⟩
  refine Ol.p ass ?_
  refine Ol.nil ?_
  rw [show (madeCells (Value.bool false).cells (f.blocks.length * 1)).toList.take (f.blocks.length * 1) = boolsL f.blocks.length fun _ => false from made_bools _]
  obtain ⟨L0, hL0⟩ : ∃ L0, L0 = [row (.slice (some ⟨gs, 0, none⟩) f.blocks.length f.blocks.length) 4 1 f.blocks.length (boolsL f.blocks.length fun _ => false), blk g1 (.cells f.cells.toArray 43)] := ⟨_, rfl⟩
  refine Cd.mid (fun σ' L' => okEs f.terms = true ∧ Has σ' [(1, .pointer (some ⟨g1, 0, none⟩)), (2, .int .i64 0), (4, .slice (some ⟨gs, 0, none⟩) f.blocks.length f.blocks.length)] ∧ L0 = L') ?_ ?_
  · refine Cd.seq ?_
    refine Cd.region ?_
    refine Ol.p (fdl fd_api_Func_1) ?_
    refine Ol.p (ld one_L_api_Block (Rd.blk (i := 1) rfl rfl)) ?_
    refine Ol.p (lens sl_L_api_Block) ?_
    refine Ol.p mvi ?_
    refine Ol.nil ?_
    refine Cd.block ?_   -- 0
    refine Cd.loop (fun m σ L => ∃ k, m = f.blocks.length - k ∧ k ≤ f.blocks.length ∧ Has σ [(1, .pointer (some ⟨g1, 0, none⟩)), (2, .int .i64 0), (4, .slice (some ⟨gs, 0, none⟩) f.blocks.length f.blocks.length), (16, .slice f.bA f.blocks.length f.bC), (17, .int .i64 f.blocks.length), (18, .int .i64 k)] ∧ L0 = L ∧ ∀ t ∈ f.terms.take k, (toL t).all (fun n => decide (1 ≤ n) && decide (n < (f.terms.length : Int))) = true) (n := f.blocks.length) ⟨0, rfl, Nat.zero_le _, ⟨rfl, rfl, rfl, rfl, rfl, rfl, trivial⟩, hL0, by simp⟩ ?_
    rintro _ σ L ⟨k, rfl, hk, hs, rfl, hall⟩
    refine Cd.has hs ?_
    refine Cd.seq ?_
    rw [hL0]
    refine Cd.region ?_
    refine Ol.p lsi ?_
    refine Ol.nil ?_
    refine Cd.seq ?_
    refine Cd.cond rfl (fun h => ?_) (fun h => ?_)   -- $19
    · have hlt : k < f.blocks.length := by
        simp only [decide_eq_true_eq] at h; omega
      obtain ⟨b, hb⟩ : ∃ b, f.blocks[k]? = some b := ⟨_, List.getElem?_eq_getElem hlt⟩
      have ht : f.terms[k]? = some b.term := by simp [RFun.terms, hb]
      have hbm := List.mem_of_getElem? hb
      refine Cd.skip ?_
      refine Cd.seq ?_
      refine Cd.block ?_   -- 1
      refine Cd.seq ?_
      refine Cd.region ?_
      refine Ol.p (ixn sl_L_api_Block (Som.slc hf.blocks (by omega))) ?_
      refine Ol.p (lds (es := b.cells) ag_api_Block hf.blocks b.len (fun j u hu => blk_cell hb hu)) ?_
      refine Ol.x (alc zr_api_Block) ?_
      rintro _ _ ⟨g6, rfl, rfl⟩
      refine Ol.s (stw sz_api_Block rfl b.one (i := 0) rfl rfl) ?_
      refine Ol.nil ?_
      refine Cd.seq ?_
      refine Cd.region ?_
      refine Ol.p (fdl fd_api_Block_1) ?_
      refine Ol.p (ldp (k := 0 + 1) (vs := b.term.cells.toArray) ag_api_Term (i := 0) rfl rfl (fun j u hu => by rw [Nat.zero_add, Nat.add_comm]; simpa [RBlk.cells] using hu)) ?_
      refine Ol.x (sp_call en_ir_To (fun M w' hh => ir_To_ct (t := b.term))) ?_
      rintro _ _ ⟨_, rfl, A24, c24, rfl, rfl⟩
      refine Ol.p (lens sl_L_int) ?_
      refine Ol.p mvi ?_
      refine Ol.nil ?_
      obtain ⟨to, hto⟩ : ∃ to, to = toL b.term := ⟨_, rfl⟩
      have htoL := toL_len b.term
      rw [← hto] at htoL ⊢
      refine Cd.block ?_   -- 2
      obtain ⟨L1, hL1⟩ : ∃ L1, L1 = row (.slice A24 to.length c24) 3 1 to.length (ints to) :: blk g6 (.cells b.cells.toArray 50) :: L0 := ⟨_, rfl⟩
      refine Cd.loop (fun m σ L => ∃ j, m = to.length - j ∧ j ≤ to.length ∧ Has σ [(1, .pointer (some ⟨g1, 0, none⟩)), (2, .int .i64 0), (4, .slice (some ⟨gs, 0, none⟩) f.blocks.length f.blocks.length), (16, .slice f.bA f.blocks.length f.bC), (17, .int .i64 f.blocks.length), (18, .int .i64 k), (24, .slice A24 to.length c24), (25, .int .i64 to.length), (26, .int .i64 j)] ∧ L1 = L ∧ ∀ n ∈ to.take j, 1 ≤ n ∧ n < (f.blocks.length : Int)) (n := to.length) ⟨0, rfl, Nat.zero_le _, ⟨rfl, rfl, rfl, rfl, rfl, rfl, rfl, rfl, rfl, trivial⟩, by rw [hL1, hL0]; rfl, by simp⟩ ?_
      clear hs
      rintro _ σ L ⟨j, rfl, hj, hs, rfl, hto2⟩
      refine Cd.has hs ?_
      refine Cd.seq ?_
      rw [hL1, hL0]
      refine Cd.region ?_
      refine Ol.p lsi ?_
      refine Ol.nil ?_
      refine Cd.seq ?_
      refine Cd.cond rfl (fun h2 => ?_) (fun h2 => ?_)   -- $27
      · have hjl : j < to.length := by
          simp only [decide_eq_true_eq] at h2; omega
        obtain ⟨n, hn⟩ : ∃ n, to[j]? = some n := ⟨_, List.getElem?_eq_getElem hjl⟩
        have hnm := List.mem_of_getElem? hn
        have hbad : ¬ (1 ≤ n ∧ n < (f.blocks.length : Int)) → okEs f.terms = false := fun hno => by
          unfold okEs
          rw [List.all_eq_false]
          refine ⟨b.term, List.mem_of_getElem? ht, ?_⟩
          rw [← hto]
          intro h3
          rw [List.all_eq_true] at h3
          have := h3 n hnm
          rw [htl] at this
          exact hno (by simpa using this)
        refine Cd.skip ?_
        refine Cd.seq ?_
        refine Cd.block ?_   -- 3
        refine Cd.seq ?_
        refine Cd.region ?_
        refine Ol.p (ixn1 (ix := j) sl_L_int (Som.row (i := 0) rfl (by omega))) ?_
        refine Ol.p (ld one_int (Rd.row (i := 0) rfl (ints_at hn))) ?_
        refine Ol.p asi ?_
        refine Ol.nil ?_
        refine Cd.seq ?_
        cases hlow : decide (n < 1) with
        | true =>
          refine Cd.region ?_
          refine Ol.p mvi ?_
          refine Ol.p lsi ?_
          refine Ol.p mvb ?_
          refine Ol.gn hlow ?_
          refine Ol.gn hlow ?_
          refine Ol.gn hlow ?_
          refine Ol.gn hlow ?_
          refine Ol.gn hlow ?_
          refine Ol.p (pkTb hlow) ?_
          refine Ol.nil ?_
          refine Cd.cond rfl (fun h => ?_) (fun h => by cases h)   -- $38
          refine Cd.seq ?_
          refine Cd.region ?_
          refine Ol.p asi ?_
          refine Ol.p asb ?_
          refine Ol.nil ?_
          refine Cd.ret ⟨.tuple _, ret2 rfl rfl rfl, [], .nil, ?_, rfl⟩
          rw [hbad (by simp only [decide_eq_true_eq] at hlow; omega)]; rfl
        | false =>
          refine Cd.region ?_
          refine Ol.p mvi ?_
          refine Ol.p lsi ?_
          refine Ol.p mvb ?_
          refine Ol.gp hlow mvi ?_
          refine Ol.gp hlow (fdl fd_api_Func_1) ?_
          refine Ol.gp hlow (ld one_L_api_Block (Rd.blk (i := 3) rfl rfl)) ?_
          refine Ol.gp hlow (lens sl_L_api_Block) ?_
          refine Ol.gp hlow gei ?_
          refine Ol.p (pkFb hlow) ?_
          refine Ol.nil ?_
          refine Cd.cond rfl (fun h => ?_) (fun h => ?_)   -- $38
          · refine Cd.seq ?_
            refine Cd.region ?_
            refine Ol.p asi ?_
            refine Ol.p asb ?_
            refine Ol.nil ?_
            refine Cd.ret ⟨.tuple _, ret2 rfl rfl rfl, [], .nil, ?_, rfl⟩
            rw [hbad (by simp only [decide_eq_true_eq] at h; omega)]; rfl
          refine Cd.skip ?_
          refine Cd.region ?_
          refine Ol.p addi ?_
          refine Ol.p mvi ?_
          refine Ol.nil ?_
          refine ⟨to.length - (j + 1), by omega, j + 1, rfl, by omega, ⟨rfl, rfl, rfl, rfl, rfl, rfl, rfl, rfl, rfl, trivial⟩, rfl, ?_⟩
          intro x hx
          rw [take_snoc_ hn] at hx
          rcases List.mem_append.1 hx with h3 | h3
          · exact hto2 x h3
          · have : x = n := by simpa using h3
            subst this
            simp only [decide_eq_false_iff_not] at h hlow
            omega
      have hj2 : j = to.length := by
        simp only [decide_eq_false_iff_not] at h2; omega
      subst hj2
      rw [List.take_length] at hto2
      refine Cd.exit (id := 2) ?_
      refine Cd.keep (.sub (.cons _ (.cons _ (List.Sublist.refl _)))) ?_
      refine Cd.region ?_
      refine Ol.p addi ?_
      refine Ol.p mvi ?_
      refine Ol.nil ?_
      refine ⟨f.blocks.length - (k + 1), by omega, k + 1, rfl, by omega, ⟨rfl, rfl, rfl, rfl, rfl, rfl, trivial⟩, rfl, ?_⟩
      intro x hx
      rw [take_snoc_ ht] at hx
      rcases List.mem_append.1 hx with h3 | h3
      · exact hall x h3
      · have : x = b.term := by simpa using h3
        subst this
        rw [← hto, List.all_eq_true]
        intro n hn
        have := hto2 n hn
        rw [htl]
        simpa using this
    have hk2 : k = f.blocks.length := by
      simp only [decide_eq_false_iff_not] at h; omega
    subst hk2
    rw [← htl, List.take_length] at hall
    refine Cd.exit (id := 0) ?_
    refine ⟨?_, ⟨rfl, rfl, rfl, trivial⟩, rfl⟩
    unfold okEs
    rw [List.all_eq_true]
    exact hall
  rintro σ' _ ⟨hok, hs', rfl⟩
  refine Cd.has hs' ?_
  have hcl := okEs_closed hok (by omega) (by omega)
  rw [hok, cond_true]
  refine Cd.seq ?_
  refine Cd.seq ?_
  rw [hL0]
  refine Cd.region ?_
  refine Ol.x (bsv [.int .i64 0] sl_L_int zr_int (by simp [Value.cells])) ?_
  rintro _ _ ⟨gq, rfl, rfl⟩
  refine Ol.p ass ?_
  refine Ol.nil ?_
  refine Cd.unrow (fun cs0 hcs1 hcs2 => ?_)
  refine Cd.block ?_   -- 4
  refine Cd.loop (fun m σ L => ∃ (S : Nat → Bool) (todo : List Nat) (g off c : Nat) (cs : Array Value), m = 3 * (f.blocks.length - cntB f.blocks.length S) + todo.length ∧ Bfs f.terms S todo ∧ todo.length ≤ 1 + 2 * cntB f.blocks.length S ∧ (off + c ≤ cs.size ∧ todo.length ≤ c ∧ ∀ j u, (intsN todo)[j]? = some u → cs[off + j]? = some u) ∧ Has σ [(1, .pointer (some ⟨g1, 0, none⟩)), (2, .int .i64 (cntB f.blocks.length S : Nat)), (4, .slice (some ⟨gs, 0, none⟩) f.blocks.length f.blocks.length), (9, .slice (some ⟨g, off, none⟩) todo.length c)] ∧
      [blk g (.cells cs 3), row (.slice (some ⟨gs, 0, none⟩) f.blocks.length f.blocks.length) 4 1 f.blocks.length (boolsL f.blocks.length S), blk g1 (.cells f.cells.toArray 43)] = L) (n := 3 * (f.blocks.length - cntB f.blocks.length fun _ => false) + 1)
    ⟨fun _ => false, [0], gq, 0, 1, cs0, rfl, Bfs.start (by omega), by simp, ⟨by omega, Nat.le_refl _, fun j u hu => ?_⟩, ⟨rfl, by rw [show cntB f.blocks.length (fun _ => false) = 0 by simp [cntB]]; rfl, rfl, rfl, trivial⟩, rfl⟩ ?_
  · have h3 : (cs0.toList.take (1 * 1))[j]? = some u := by rw [hcs2]; exact hu
    rw [List.getElem?_take] at h3
    split at h3
    · rw [Nat.zero_add]; simpa using h3
    · cases h3
  rintro _ σ L ⟨S, todo, g, off, c, cs, rfl, hB, hlen, ⟨hsz, hnc, hcell⟩, hs, rfl⟩
  refine Cd.has hs ?_
  have hcnt := cntB_le f.blocks.length S
  refine Cd.seq ?_
  refine Cd.seq ?_
  refine Cd.region ?_
  refine Ol.p mvs ?_
  refine Ol.p (lens sl_L_int) ?_
  refine Ol.p gti ?_
  refine Ol.nil ?_
  refine Cd.cond rfl (fun h => ?_) (fun h => ?_)   -- $44
  · obtain ⟨x, rest, rfl⟩ : ∃ x rest, todo = x :: rest := by
      cases todo with
      | nil => simp at h
      | cons x rest => exact ⟨x, rest, rfl⟩
    obtain ⟨hxl, hxr⟩ := hB.t x (by simp)
    rw [htl] at hxl
    obtain ⟨b, hb⟩ : ∃ b, f.blocks[x]? = some b := ⟨_, List.getElem?_eq_getElem hxl⟩
    have ht : f.terms[x]? = some b.term := by simp [RFun.terms, hb]
    have h00 : cs[off + 0]? = some (.int .i64 (x : Int)) := hcell 0 _ rfl
    have hrest : ∀ j u, (intsN rest)[j]? = some u → cs[(if c = 1 then off else off + 1) + j]? = some u := fun j u hu => by
      by_cases e : c = 1
      · have : rest.length = 0 := by simp only [List.length_cons] at hnc; omega
        have : rest = [] := List.eq_nil_of_length_eq_zero this
        subst this; simp [intsN] at hu
      · rw [if_neg e, show off + 1 + j = off + (j + 1) by omega]
        exact hcell (j + 1) u hu
    simp only [List.length_cons] at hnc hlen
    obtain ⟨off', hoff⟩ : ∃ off', off' = if c = 1 then off else off + 1 := ⟨_, rfl⟩
    have hsz' : off' + (c - 1) ≤ cs.size := by rw [hoff]; split <;> omega
    rw [← hoff] at hrest
    refine Cd.skip ?_
    refine Cd.block ?_   -- 5
    refine Cd.seq ?_
    refine Cd.region ?_
    refine Ol.p mvs ?_
    refine Ol.p (ixo (ix := 0) (n := rest.length + 1) sl_L_int) ?_
    refine Ol.p (ld one_int (Rd.blk (i := 0) rfl h00)) ?_
    refine Ol.p asi ?_
    refine Ol.nil ?_
    refine Cd.seq ?_
    refine Cd.region ?_
    refine Ol.p mvs ?_
    refine Ol.p (slq (n := rest.length + 1) (c := c) (off' := off') sl_L_int (by omega) hoff) ?_
    refine Ol.p ass ?_
    refine Ol.nil ?_
    refine Cd.seq ?_
    refine Cd.region ?_
    refine Ol.p mvs ?_
    refine Ol.p mvi ?_
    refine Ol.p (ixn1 (ix := x) sl_L_bool (Som.row (i := 1) rfl (by omega))) ?_
    refine Ol.p (ld one_bool (Rd.row (i := 1) rfl (boolsL_get hxl))) ?_
    refine Ol.p noti ?_
    refine Ol.nil ?_
    refine Cd.cond rfl (fun h2 => ?_) (fun h2 => ?_)   -- $54
    · have hSx : S x = false := by simpa using h2
      have hcs := cntB_set hxl hSx
      have hcl2 := cntB_le f.blocks.length (setB S x)
      have hat : ∀ n ∈ toL b.term, 0 ≤ n := fun n hn => by have := okEs_at hok (a := x) (by rw [toAt_some ht]; exact hn); omega
      have htoN : (toN b.term).length ≤ 2 := by have := toL_len b.term; unfold toN; rw [List.length_map]; exact this
      have htoN2 : (toL b.term).length = (toN b.term).length := by unfold toN; rw [List.length_map]
      have hB2 : Bfs f.terms (setB S x) (rest ++ toN b.term) := hB.see (fun q => by rw [mem_toN hat, toAt_some ht]) (fun q hq => by
        have := okEs_at hok (a := x) (n := (q : Int)) (by rw [toAt_some ht]; exact (mem_toN hat q).1 hq); omega)
      refine Cd.seq ?_
      refine Cd.region ?_
      refine Ol.p mvs ?_
      refine Ol.p mvi ?_
      refine Ol.p (ixn1 (ix := x) sl_L_bool (Som.row (i := 1) rfl (by omega))) ?_
      refine Ol.s (str (i := 1) (k := x) sz_bool rfl rfl rfl (by rw [boolsL_len]; exact hxl) rfl) ?_
      refine Ol.nil ?_
      refine Cd.seq ?_
      refine Cd.region ?_
      refine Ol.p mvi ?_
      refine Ol.p addi ?_
      refine Ol.p asi ?_
      refine Ol.nil ?_
      refine Cd.region ?_
      refine Ol.p mvs ?_
      refine Ol.p (fdl fd_api_Func_1) ?_
      refine Ol.p (ld one_L_api_Block (Rd.blk (i := 2) rfl rfl)) ?_
      refine Ol.p mvi ?_
      refine Ol.p (ixn (ix := x) sl_L_api_Block (Som.slc hf.blocks (by omega))) ?_
      refine Ol.p (fdp fd_api_Block_1) ?_
      refine Ol.p (lds (es := b.term.cells) ag_api_Term hf.blocks rfl (fun q u hu => by rw [Nat.add_assoc, hf.cell hb (j := 1 + q) (by have := (List.getElem?_eq_some_iff.1 hu).1; simp [Tm.cells] at this; omega), Nat.add_comm]; simpa [RBlk.cells] using hu)) ?_
      refine Ol.x (sp_call en_ir_To (fun M w' hh => ir_To_ct (t := b.term))) ?_
      rintro _ _ ⟨_, rfl, A67, c67, rfl, rfl⟩
      refine Ol.x (apq (i := 1) (n := rest.length) (c := c - 1) (m := (toL b.term).length) (xs := intsN rest) (ys := ints (toL b.term)) sl_L_int zr_int rfl rfl hsz' (by omega) (by simp [intsN]) hrest (Src.row (i := 0) rfl (by simp [ints])) (ints_one _) (by unfold maxLen; omega) (by omega)) ?_
      rintro _ _ ⟨g', off2, c', cs', rfl, rfl, hq1, hq2, hq3⟩
      refine Ol.p ass ?_
      refine Ol.keep (.sub (.cons _ (List.Sublist.refl _))) ?_
      refine Ol.nil ?_
      have e1 : rest.length + (toL b.term).length = (rest ++ toN b.term).length := by rw [List.length_append, htoN2]
      have e2 : intsN rest ++ ints (toL b.term) = intsN (rest ++ toN b.term) := by rw [toN_ints hat]; simp [intsN]
      rw [e1] at hq2 ⊢
      rw [e2] at hq3
      refine ⟨3 * (f.blocks.length - cntB f.blocks.length (setB S x)) + (rest ++ toN b.term).length, ?_, setB S x, rest ++ toN b.term, g', off2, c', cs', rfl, hB2, ?_, ⟨hq1, hq2, hq3⟩, ⟨rfl, ?_, rfl, rfl, trivial⟩, ?_⟩
      · rw [List.length_append, List.length_cons]; omega
      · rw [List.length_append]; omega
      · rw [hcs]; rfl
      · rw [← boolsL_set]; rfl
    have hSx : S x = true := by simpa using h2
    refine Cd.skip ?_
    exact ⟨3 * (f.blocks.length - cntB f.blocks.length S) + rest.length, by simp only [List.length_cons]; omega, S, rest, g, off', c - 1, cs, rfl, hB.pop hSx, by omega, ⟨hsz', by omega, hrest⟩, ⟨rfl, rfl, rfl, rfl, trivial⟩, rfl⟩
  have htodo : todo = [] := by
    cases todo with
    | nil => rfl
    | cons x rest => simp only [decide_eq_false_iff_not, List.length_cons] at h; omega
  subst htodo
  have hfin := hB.fin hcl
  rw [htl] at hfin
  refine Cd.exit (id := 4) ?_
  refine Cd.seq ?_
  refine Cd.region ?_
  refine Ol.p mvi ?_
  refine Ol.p asi ?_
  refine Ol.p asb ?_
  refine Ol.nil ?_
  refine Cd.ret ⟨.tuple _, ret2 rfl rfl rfl, [], .nil, ?_, rfl⟩
  rw [hfin]; rfl
end
end Go.Proofs.Ytcojedoejpcolaa

/- The package ir: whether all that is read has a value; whether a function is right: walked. -/
namespace Go.Proofs.Ytcojedoejpcolaa
set_option linter.unusedVariables false
open Go Go.RowKit
set_option maxRecDepth 100000

theorem ixi {P : Program} {w0 : World} {B : Nat} {σ : Env} {L : List Res} {d : Option Nat} {ty T : TypeId} {pos : String} {af : Array Edge} {gd : Option (Nat × Bool)} {x y : Operand} {g ix n c e b : Nat} {k : IntKind} (hT : SlT P T e 201 b) (hx : ev σ x = .slice (some ⟨g, 0, none⟩) n c := by exact rfl) (hy : ev σ y = .int k (ix : Int) := by exact rfl) (h : ix < n := by omega) :
    Sd P w0 B ⟨d, .indexAddr T x y, ty, pos, af, gd⟩ σ L (.pointer (some ⟨g, ix * 201, none⟩)) := by
  have := ixo (d := d) (ty := ty) (pos := pos) (af := af) (gd := gd) (P := P) (w0 := w0) (B := B) (L := L) hT hx hy h
  rwa [Nat.zero_add] at this
theorem trn_any {P : Program} {w0 : World} {B : Nat} {σ : Env} {r : Res} {L : List Res} {o : Oper} {v : Value} {g e : Nat} {cs : Array Value} (h : Sp P w0 B o σ (r :: L) (det v (blk g (.cells cs e) :: L))) : Sp P w0 B o σ (r :: L) (Adds (fun v' R => v' = v ∧ ∃ g cs, R = [blk g (.cells cs e)]) L) := fun M w hh =>
  Goes.mono (h M w hh) fun v' w' ⟨L', h1, h2, h3⟩ => ⟨L', h1, [blk g (.cells cs e)], h3, h2, g, cs, rfl⟩
theorem encV_len (s : VS) : (encV s).toList.length = 201 := by simp [encV]
section
set_option maxHeartbeats 8000000 in
theorem ir_valued_ct {w : World} {f : RFun} (hf : FunAt w w.heap.size f) (hfit : Fit f) (hl : longF f = false) (hw : wholeF f = true) (hok : okEs f.terms = true) : Ct Try.prog 81 #[f.val] w (Is (.bool (valuedF f))) := by
  have htl : f.terms.length = f.blocks.length := by simp [RFun.terms]
  have hlong : 0 < f.blocks.length ∧ f.blocks.length ≤ 200 ∧ f.params.length ≤ 8 := by
    unfold longF at hl
    simp only [Bool.or_eq_false_iff, decide_eq_false_iff_not] at hl
    omega
  obtain ⟨h0, h200, hp8⟩ := hlong
  have hvar : ∀ n ∈ f.params, 1 ≤ n ∧ n ≤ 200 := fun n hn => by
    rw [whole_split, Bool.and_eq_true, Bool.and_eq_true, List.all_eq_true] at hw
    exact varB_iff.1 (hw.1.1 n hn)
  obtain ⟨n, hn⟩ : ∃ n, n = f.blocks.length := ⟨_, rfl⟩
  have hto : ∀ (a : Nat) (x : RBlk), f.blocks[a]? = some x → ∀ m ∈ toL x.term, 1 ≤ m ∧ m < (n : Int) := fun a x ha m hm => by
    have ht : f.terms[a]? = some x.term := by simp [RFun.terms, ha]
    have := okEs_at hok (a := a) (by rw [toAt_some ht]; exact hm)
    omega
  refine Ct.mk Try.func81 rfl rfl ?_
  refine Cd.seq ?_
  refine Cd.region ?_
  refine Ol.x bxg ?_
  rintro _ _ ⟨g1, rfl, rfl⟩
  refine Ol.p asb ?_
  refine Ol.nil ?_
  refine Cd.seq ?_
  refine Cd.region ?_
  refine Ol.p (fdl fd_api_Func_1) ?_
  refine Ol.p (ld one_L_api_Block (Rd.blk (i := 0) rfl rfl)) ?_
  refine Ol.p (lens sl_L_api_Block) ?_
  refine Ol.x (mks (n := f.blocks.length) (c := f.blocks.length) sl_L_ir_set zr_ir_set) ?_
  rintro _ _ ⟨gi, rfl, rfl⟩
  refine Ol.p ass ?_
  refine Ol.nil ?_
  refine Cd.unrow (fun cs hcs1 hcs2 => ?_)
  have hcs : cs = inA n fun _ _ => false := by
    rw [← made_inA, hn]
    apply Array.ext'
    rw [List.take_of_length_le (by simp [hcs1])] at hcs2
    rw [hcs2, List.take_of_length_le (by simp [madeCells, Value.cells])]
    rfl
  subst hcs
  rw [← hn]
  obtain ⟨LF, hLF⟩ : ∃ LF, LF = blk g1 (.cells f.cells.toArray 43) := ⟨_, rfl⟩
  refine Cd.mid (fun σ' L' => Has σ' [(1, .pointer (some ⟨g1, 0, none⟩)), (3, .slice (some ⟨gi, 0, none⟩) n n)] ∧ [blk gi (.cells (inA n fun _ _ => true) 128), LF] = L') ?_ ?_
  · refine Cd.seq ?_
    refine Cd.region ?_
    refine Ol.p mvs ?_
    refine Ol.p (lens sl_L_ir_set) ?_
    refine Ol.p mvi ?_
    refine Ol.nil ?_
    refine Cd.block ?_   -- 0
    refine Cd.loop (fun m σ L => ∃ k, m = n - k ∧ k ≤ n ∧ Has σ [(1, .pointer (some ⟨g1, 0, none⟩)), (3, .slice (some ⟨gi, 0, none⟩) n n), (25, .int .i64 n), (26, .int .i64 k)] ∧ [blk gi (.cells (inA n fun b _ => decide (b < k)) 128), LF] = L) (n := n) ⟨0, rfl, Nat.zero_le _, ⟨rfl, rfl, rfl, rfl, trivial⟩, by rw [hLF, inA_congr (J := fun _ _ => false) (fun b v _ _ => by simp)]⟩ ?_
    rintro _ σ L ⟨k, rfl, hk, hs, rfl⟩
    refine Cd.has hs ?_
    refine Cd.seq ?_
    refine Cd.region ?_
    refine Ol.p lsi ?_
    refine Ol.nil ?_
    refine Cd.seq ?_
    refine Cd.cond rfl (fun h => ?_) (fun h => ?_)   -- $27
    · have hlt : k < n := by
        simp only [decide_eq_true_eq] at h; omega
      refine Cd.skip ?_
      refine Cd.seq ?_
      refine Cd.block ?_   -- 1
      refine Cd.seq ?_
      refine Cd.region ?_
      refine Ol.p mvi ?_
      refine Ol.p asi ?_
      refine Ol.nil ?_
      refine Cd.region ?_
      refine Ol.p mvs ?_
      refine Ol.p mvi ?_
      refine Ol.s (cl en_ir_full (fun M w' hh => ir_full_ct)) ?_
      refine Ol.p (ixi (ix := k) sl_L_ir_set) ?_
      refine Ol.s (sta (k := k * 201) sz_ir_set (encV_size _) (encV_one _) (i := 0) rfl (by rw [inA_size]; have : (k + 1) * 201 ≤ n * 201 := Nat.mul_le_mul_right _ hlt; omega)) ?_
      refine Ol.nil ?_
      refine Cd.region ?_
      refine Ol.p addi ?_
      refine Ol.p mvi ?_
      refine Ol.nil ?_
      refine ⟨n - (k + 1), by omega, k + 1, rfl, by omega, ⟨rfl, rfl, rfl, rfl, trivial⟩, congrArg (fun cs => [blk gi (.cells cs 128), LF]) (Eq.symm ((inA_sta hlt).trans (inA_congr fun b v hb hv => ?_)))⟩
      unfold setI
      by_cases e : b = k
      · rw [if_pos e]; simp [e]
      · rw [if_neg e, decide_eq_decide]; omega
    have hk2 : k = n := by
      simp only [decide_eq_false_iff_not] at h; omega
    subst hk2
    refine Cd.exit (id := 0) ?_
    exact ⟨⟨rfl, rfl, trivial⟩, by rw [inA_congr (I := fun b _ => decide (b < k)) (J := fun _ _ => true) (fun b v hb _ => by simpa using hb)]⟩
  rintro σ' _ ⟨hs', rfl⟩
  refine Cd.has hs' ?_
  clear hs'
  refine Cd.seq ?_
  refine Cd.region ?_
  refine Ol.p mvs ?_
  refine Ol.p (bda (cs := encV fun _ => false) ar_ir_set zr_ir_set (hf := by rw [← zeroV]; rfl)) ?_
  refine Ol.p (ixi (ix := 0) sl_L_ir_set) ?_
  refine Ol.s (sta (k := 0 * 201) sz_ir_set (encV_size _) (encV_one _) (i := 0) rfl (by rw [inA_size]; have : (0 + 1) * 201 ≤ n * 201 := Nat.mul_le_mul_right _ (by omega); omega)) ?_
  refine Ol.nil ?_
  rw [show ((inA n fun _ _ => true).toList.take (0 * 201) ++ (encV fun _ => false).toList ++ (inA n fun _ _ => true).toList.drop (0 * 201 + 201)).toArray = inA n (setI (fun _ _ => true) 0 fun _ => false) from inA_sta (by omega)]
  refine Cd.mid (fun σ' L' => Has σ' [(1, .pointer (some ⟨g1, 0, none⟩)), (3, .slice (some ⟨gi, 0, none⟩) n n)] ∧ ∃ I, Val f I ∧ [blk gi (.cells (inA n I) 128), LF] = L') ?_ ?_
  · refine Cd.seq ?_
    rw [hLF]
    refine Cd.region ?_
    refine Ol.p (fdl fd_api_Func_0) ?_
    refine Ol.p (ld one_L_int (Rd.blk (i := 1) rfl rfl)) ?_
    refine Ol.p (lens sl_L_int) ?_
    refine Ol.p mvi ?_
    refine Ol.nil ?_
    refine Cd.block ?_   -- 2
    refine Cd.loop (fun m σ L => ∃ k s, m = f.params.length - k ∧ k ≤ f.params.length ∧ Has σ [(1, .pointer (some ⟨g1, 0, none⟩)), (3, .slice (some ⟨gi, 0, none⟩) n n), (38, .slice f.pA f.params.length f.pC), (39, .int .i64 f.params.length), (40, .int .i64 k)] ∧ [blk gi (.cells (inA n (setI (fun _ _ => true) 0 s)) 128), LF] = L ∧ ∀ v, s v = true ↔ ∃ p ∈ f.params.take k, p.toNat = v) (n := f.params.length) ⟨0, fun _ => false, rfl, Nat.zero_le _, ⟨rfl, rfl, rfl, rfl, rfl, trivial⟩, by rw [hLF]; rfl, by simp⟩ ?_
    rintro _ σ L ⟨k, s, rfl, hk, hs, rfl, hsv⟩
    refine Cd.has hs ?_
    refine Cd.seq ?_
    refine Cd.region ?_
    refine Ol.p lsi ?_
    refine Ol.nil ?_
    refine Cd.seq ?_
    refine Cd.cond rfl (fun h => ?_) (fun h => ?_)   -- $41
    · have hlt : k < f.params.length := by
        simp only [decide_eq_true_eq] at h; omega
      obtain ⟨p, hp⟩ : ∃ p, f.params[k]? = some p := ⟨_, List.getElem?_eq_getElem hlt⟩
      have hpr := hvar p (List.mem_of_getElem? hp)
      obtain ⟨m, rfl⟩ : ∃ m : Nat, p = (m : Int) := ⟨p.toNat, by omega⟩
      have hm : m < 201 := by omega
      refine Cd.skip ?_
      refine Cd.seq ?_
      refine Cd.block ?_   -- 3
      refine Cd.seq ?_
      refine Cd.region ?_
      refine Ol.p (ixn1 (ix := k) sl_L_int (Som.slc hf.params (by omega))) ?_
      refine Ol.p (ld one_int (Rd.slc hf.params (ints_at hp))) ?_
      refine Ol.p asi ?_
      refine Ol.nil ?_
      refine Cd.region ?_
      refine Ol.p mvs ?_
      refine Ol.p mvi ?_
      refine Ol.p (ixi (ix := 0) sl_L_ir_set) ?_
      refine Ol.p (ixl1 (ix := m) ar_ir_set) ?_
      refine Ol.s (sto (k := m) (.inr sz_bool) rfl rfl (i := 0) rfl (by rw [inA_size]; omega) rfl) ?_
      refine Ol.nil ?_
      refine Cd.region ?_
      refine Ol.p addi ?_
      refine Ol.p mvi ?_
      refine Ol.nil ?_
      have e : (inA n (setI (fun _ _ => true) 0 s)).setIfInBounds m (.bool true) = inA n (setI (fun _ _ => true) 0 (putV s m true)) := by
        have := inA_put (n := n) (b := 0) (v := m) (u := true) (I := setI (fun _ _ => true) 0 s) hm
        rw [Nat.zero_mul, Nat.zero_add] at this
        rw [this]
        refine inA_congr fun b v hb hv => ?_
        unfold setI
        by_cases e : b = 0 <;> simp [e]
      refine ⟨f.params.length - (k + 1), by omega, k + 1, putV s m true, rfl, by omega, ⟨rfl, rfl, rfl, rfl, rfl, trivial⟩, congrArg (fun cs => [blk gi (.cells cs 128), LF]) e.symm, fun v => ?_⟩
      rw [take_snoc_ hp]
      unfold putV
      by_cases e2 : v = m
      · rw [if_pos e2]
        simp only [true_iff]
        exact ⟨(m : Int), by simp, by simp [e2]⟩
      · rw [if_neg e2, hsv]
        constructor
        · rintro ⟨p, h1, h2⟩; exact ⟨p, by simp [h1], h2⟩
        · rintro ⟨p, h1, h2⟩
          rcases List.mem_append.1 h1 with h1 | h1
          · exact ⟨p, h1, h2⟩
          · have : p = (m : Int) := by simpa using h1
            subst this; simp at h2; omega
    have hk2 : k = f.params.length := by
      simp only [decide_eq_false_iff_not] at h; omega
    subst hk2
    rw [List.take_length] at hsv
    refine Cd.exit (id := 2) ?_
    refine ⟨⟨rfl, rfl, trivial⟩, setI (fun _ _ => true) 0 s, ⟨fun v hv => ?_, fun b v hv hb => ?_⟩, by rw [hLF]⟩
    · unfold setI; rw [if_pos rfl]; exact hsv v
    · unfold setI at hb
      by_cases e : b = 0
      · rw [if_pos e] at hb
        rw [e]
        refine .zero fun p hp e2 => ?_
        rw [(hsv v).2 ⟨p, hp, e2⟩] at hb; cases hb
      · rw [if_neg e] at hb; cases hb
  rintro σ' _ ⟨hs', I0, hV0, rfl⟩
  refine Cd.has hs' ?_
  clear hs'
  refine Cd.mid (fun σ' L' => Has σ' [(1, .pointer (some ⟨g1, 0, none⟩)), (3, .slice (some ⟨gi, 0, none⟩) n n)] ∧ ∃ I, (∀ b v, v < 201 → (I b v = false ↔ Bare f v b)) ∧ [blk gi (.cells (inA n I) 128), LF] = L') ?_ ?_
  · refine Cd.seq ?_
    refine Cd.region ?_
    refine Ol.p asb ?_
    refine Ol.nil ?_
    refine Cd.block ?_   -- 4
    refine Cd.loop (fun m σ L => ∃ (I : IV) (mv : Bool), m = muI n I + (if mv = true then 1 else 0) ∧ Val f I ∧ (mv = false → ∀ (a : Nat) (x : RBlk), f.blocks[a]? = some x → ∀ to : Nat, (to : Int) ∈ toL x.term → Stab I (outV x.ins (I a)) to) ∧ Has σ [(1, .pointer (some ⟨g1, 0, none⟩)), (3, .slice (some ⟨gi, 0, none⟩) n n), (7, .bool mv)] ∧ [blk gi (.cells (inA n I) 128), LF] = L) (n := muI n I0 + 1) ⟨I0, true, rfl, hV0, (fun h => by cases h), ⟨rfl, rfl, rfl, trivial⟩, rfl⟩ ?_
    rintro _ σ L ⟨I, mv, rfl, hV, hst, hs, rfl⟩
    refine Cd.has hs ?_
    refine Cd.seq ?_
    refine Cd.seq ?_
    refine Cd.region ?_
    refine Ol.p mvb ?_
    refine Ol.nil ?_
    refine Cd.cond rfl (fun h => ?_) (fun h => ?_)   -- $49
    · subst h
      refine Cd.skip ?_
      refine Cd.block ?_   -- 5
      refine Cd.seq ?_
      refine Cd.region ?_
      refine Ol.p asb ?_
      refine Ol.nil ?_
      refine Cd.seq ?_
      rw [hLF]
      refine Cd.region ?_
      refine Ol.p (fdl fd_api_Func_1) ?_
      refine Ol.p (ld one_L_api_Block (Rd.blk (i := 1) rfl rfl)) ?_
      refine Ol.p (lens sl_L_api_Block) ?_
      refine Ol.p mvi ?_
      refine Ol.nil ?_
      refine Cd.block ?_   -- 6
      refine Cd.loop (fun m σ L => ∃ (k : Nat) (J : IV) (mv : Bool), m = n - k ∧ k ≤ n ∧ Has σ [(1, .pointer (some ⟨g1, 0, none⟩)), (3, .slice (some ⟨gi, 0, none⟩) n n), (7, .bool mv), (51, .slice f.bA f.blocks.length f.bC), (52, .int .i64 n), (53, .int .i64 k)] ∧ [blk gi (.cells (inA n J) 128), LF] = L ∧ Val f J ∧ (mv = true → muI n J < muI n I) ∧
        (mv = false → J = I ∧ ∀ (a : Nat) (x : RBlk), a < k → f.blocks[a]? = some x → ∀ to : Nat, (to : Int) ∈ toL x.term → Stab I (outV x.ins (I a)) to)) (n := n) ⟨0, I, false, rfl, Nat.zero_le _, ⟨rfl, rfl, rfl, rfl, by rw [hn]; rfl, rfl, trivial⟩, by rw [hLF], hV, (fun h => by cases h), fun _ => ⟨rfl, fun a x ha => by omega⟩⟩ ?_
      clear hs
      rintro _ σ L ⟨k, J, mv, rfl, hk, hs, rfl, hVJ, hmt, hmf⟩
      refine Cd.has hs ?_
      refine Cd.seq ?_
      refine Cd.region ?_
      refine Ol.p lsi ?_
      refine Ol.nil ?_
      refine Cd.seq ?_
      refine Cd.cond rfl (fun h => ?_) (fun h => ?_)   -- $54
      · have hlt : k < n := by
          simp only [decide_eq_true_eq] at h; omega
        have hle : (k + 1) * 201 ≤ n * 201 := Nat.mul_le_mul_right _ hlt
        obtain ⟨b, hb⟩ : ∃ b, f.blocks[k]? = some b := ⟨_, List.getElem?_eq_getElem (by omega)⟩
        have hbm := List.mem_of_getElem? hb
        have hba := hf.blk hfit hbm
        have hbl := hba.len
        refine Cd.skip ?_
        refine Cd.seq ?_
        refine Cd.block ?_   -- 7
        refine Cd.seq ?_
        refine Cd.region ?_
        refine Ol.p mvi ?_
        refine Ol.p (ixn (ix := k) sl_L_api_Block (Som.slc hf.blocks (by omega))) ?_
        refine Ol.p (lds (es := b.cells) ag_api_Block hf.blocks b.len (fun j u hu => blk_cell hb hu)) ?_
        refine Ol.x (alc zr_api_Block) ?_
        rintro _ _ ⟨g9, rfl, rfl⟩
        refine Ol.p asi ?_
        refine Ol.s (stw sz_api_Block rfl b.one (i := 0) rfl rfl) ?_
        refine Ol.nil ?_
        refine Cd.seq ?_
        refine Cd.region ?_
        refine Ol.p mvs ?_
        refine Ol.p mvi ?_
        refine Ol.p (ixi (ix := k) sl_L_ir_set) ?_
        refine Ol.p (ldp (k := k * 201) (vs := encV (J k)) ag_ir_set (i := 1) rfl (encV_size _) (inA_load hlt)) ?_
        refine Ol.x (alc zr_ir_set) ?_
        rintro _ _ ⟨g10, rfl, rfl⟩
        refine Ol.s (stw sz_ir_set (encV_size _) (encV_one _) (i := 0) rfl rfl) ?_
        refine Ol.nil ?_
        refine Cd.mid (fun σ' L' => Has σ' [(1, .pointer (some ⟨g1, 0, none⟩)), (3, .slice (some ⟨gi, 0, none⟩) n n), (7, .bool mv), (9, .pointer (some ⟨g9, 0, none⟩)), (10, .pointer (some ⟨g10, 0, none⟩)), (51, .slice f.bA f.blocks.length f.bC), (52, .int .i64 n), (53, .int .i64 k)] ∧ [blk g10 (.cells (encV (outV b.ins (J k))) 128), blk g9 (.cells b.cells.toArray 50), blk gi (.cells (inA n J) 128), LF] = L') ?_ ?_
        · refine Cd.seq ?_
          refine Cd.region ?_
          refine Ol.p (fdl fd_api_Block_0) ?_
          refine Ol.p (ld one_L_api_Ins (Rd.blk (i := 1) rfl rfl)) ?_
          refine Ol.p (lens sl_L_api_Ins) ?_
          refine Ol.p mvi ?_
          refine Ol.nil ?_
          refine Cd.block ?_   -- 8
          refine Cd.loop (fun m σ L => ∃ j, m = b.ins.length - j ∧ j ≤ b.ins.length ∧ Has σ [(1, .pointer (some ⟨g1, 0, none⟩)), (3, .slice (some ⟨gi, 0, none⟩) n n), (7, .bool mv), (9, .pointer (some ⟨g9, 0, none⟩)), (10, .pointer (some ⟨g10, 0, none⟩)), (51, .slice f.bA f.blocks.length f.bC), (52, .int .i64 n), (53, .int .i64 k), (63, .slice b.iA b.ins.length b.iC), (64, .int .i64 b.ins.length), (65, .int .i64 j)] ∧ [blk g10 (.cells (encV (outV (b.ins.take j) (J k))) 128), blk g9 (.cells b.cells.toArray 50), blk gi (.cells (inA n J) 128), LF] = L) (n := b.ins.length) ⟨0, rfl, Nat.zero_le _, ⟨rfl, rfl, rfl, rfl, rfl, rfl, rfl, rfl, rfl, rfl, rfl, trivial⟩, rfl⟩ ?_
          clear hs
          rintro _ σ L ⟨j, rfl, hj, hs, rfl⟩
          refine Cd.has hs ?_
          refine Cd.seq ?_
          refine Cd.region ?_
          refine Ol.p lsi ?_
          refine Ol.nil ?_
          refine Cd.seq ?_
          refine Cd.cond rfl (fun h => ?_) (fun h => ?_)   -- $66
          · have hjl : j < b.ins.length := by
              simp only [decide_eq_true_eq] at h; omega
            obtain ⟨i, hi⟩ : ∃ i, b.ins[j]? = some i := ⟨_, List.getElem?_eq_getElem hjl⟩
            have hia := hba.all i (List.mem_of_getElem? hi)
            have hdef := defI_range i
            obtain ⟨dn, hdn⟩ : ∃ dn : Nat, defI i = (dn : Int) := ⟨(defI i).toNat, by omega⟩
            have hdn2 : dn < 201 := by omega
            refine Cd.skip ?_
            refine Cd.seq ?_
            refine Cd.block ?_   -- 9
            refine Cd.seq ?_
            refine Cd.region ?_
            refine Ol.p (ixn sl_L_api_Ins (Som.slc hba.ins (by omega))) ?_
            refine Ol.p (lds (es := i.cells) ag_api_Ins hba.ins i.len (fun j u hu => ins_cell hi hu)) ?_
            refine Ol.x (alc zr_api_Ins) ?_
            rintro _ _ ⟨g12, rfl, rfl⟩
            refine Ol.s (stw sz_api_Ins rfl i.one (i := 0) rfl rfl) ?_
            refine Ol.nil ?_
            refine Cd.region ?_
            refine Ol.p (ldw ag_api_Ins (i := 0) rfl rfl) ?_
            refine Ol.s (cl en_ir_Defines (fun M w' hh => ir_Defines_ct (hia.now hh))) ?_
            refine Ol.p (ixl1 (ix := dn) ar_ir_set (hy := congrArg (Value.int .i64) hdn)) ?_
            refine Ol.s (sto (k := dn) (.inr sz_bool) rfl rfl (i := 1) rfl (by rw [encV_size]; exact hdn2) rfl) ?_
            refine Ol.keep (.sub (.cons _ (List.Sublist.refl _))) ?_
            refine Ol.nil ?_
            refine Cd.region ?_
            refine Ol.p addi ?_
            refine Ol.p mvi ?_
            refine Ol.nil ?_
            refine ⟨b.ins.length - (j + 1), by omega, j + 1, rfl, by omega, ⟨rfl, rfl, rfl, rfl, rfl, rfl, rfl, rfl, rfl, rfl, rfl, trivial⟩, ?_⟩
            rw [outV_snoc hi, hdn, Int.toNat_natCast]
            exact congrArg (fun cs => [blk g10 (.cells cs 128), blk g9 (.cells b.cells.toArray 50), blk gi (.cells (inA n J) 128), LF]) encV_set.symm
          have hj2 : j = b.ins.length := by
            simp only [decide_eq_false_iff_not] at h; omega
          subst hj2
          rw [List.take_length]
          refine Cd.exit (id := 8) ?_
          exact ⟨⟨rfl, rfl, rfl, rfl, rfl, rfl, rfl, rfl, trivial⟩, rfl⟩
        rintro σ' _ ⟨hs', rfl⟩
        refine Cd.has hs' ?_
        clear hs'
        obtain ⟨O, hO⟩ : ∃ O, O = outV b.ins (J k) := ⟨_, rfl⟩
        have hOut := hVJ.out (a := k) (x := b)
        rw [← hO] at hOut ⊢
        refine Cd.seq ?_
        refine Cd.region ?_
        refine Ol.p (fdl fd_api_Block_1) ?_
        refine Ol.p (ldp (k := 0 + 1) (vs := b.term.cells.toArray) ag_api_Term (i := 1) rfl rfl (fun j u hu => by rw [Nat.zero_add, Nat.add_comm]; simpa [RBlk.cells] using hu)) ?_
        refine Ol.x (sp_call en_ir_To (fun M w' hh => ir_To_ct (t := b.term))) ?_
        rintro _ _ ⟨_, rfl, A75, c75, rfl, rfl⟩
        refine Ol.p (lens sl_L_int) ?_
        refine Ol.p mvi ?_
        refine Ol.nil ?_
        have htb := hto k b hb
        obtain ⟨to, hto2⟩ : ∃ to, to = toL b.term := ⟨_, rfl⟩
        have htoL := toL_len b.term
        rw [← hto2] at htoL htb ⊢
        refine Cd.block ?_   -- 10
        refine Cd.loop (fun m σ L => ∃ (j : Nat) (K : IV) (mv2 : Bool), m = to.length - j ∧ j ≤ to.length ∧ Has σ [(1, .pointer (some ⟨g1, 0, none⟩)), (3, .slice (some ⟨gi, 0, none⟩) n n), (7, .bool mv2), (10, .pointer (some ⟨g10, 0, none⟩)), (51, .slice f.bA f.blocks.length f.bC), (52, .int .i64 n), (53, .int .i64 k), (75, .slice A75 to.length c75), (76, .int .i64 to.length), (77, .int .i64 j)] ∧
          [row (.slice A75 to.length c75) 3 1 to.length (ints to), blk g10 (.cells (encV O) 128), blk g9 (.cells b.cells.toArray 50), blk gi (.cells (inA n K) 128), LF] = L ∧ Val f K ∧ (mv2 = true → muI n K < muI n I) ∧ (mv2 = false → mv = false ∧ K = J ∧ ∀ m ∈ to.take j, Stab J O m.toNat)) (n := to.length) ⟨0, J, mv, rfl, Nat.zero_le _, ⟨rfl, rfl, rfl, rfl, rfl, rfl, rfl, rfl, rfl, rfl, trivial⟩, rfl, hVJ, hmt, fun h => ⟨h, rfl, by simp⟩⟩ ?_
        clear hs
        rintro _ σ L ⟨j, K, mv2, rfl, hj, hs, rfl, hVK, hkt, hkf⟩
        refine Cd.has hs ?_
        refine Cd.seq ?_
        refine Cd.region ?_
        refine Ol.p lsi ?_
        refine Ol.nil ?_
        refine Cd.seq ?_
        refine Cd.cond rfl (fun h => ?_) (fun h => ?_)   -- $78
        · have hjl : j < to.length := by
            simp only [decide_eq_true_eq] at h; omega
          obtain ⟨m, hm⟩ : ∃ m, to[j]? = some m := ⟨_, List.getElem?_eq_getElem hjl⟩
          have hmm := List.mem_of_getElem? hm
          have hmr := htb m hmm
          obtain ⟨q, rfl⟩ : ∃ q : Nat, m = (q : Int) := ⟨m.toNat, by omega⟩
          have hqn : q < n := by omega
          have hqle : (q + 1) * 201 ≤ n * 201 := Nat.mul_le_mul_right _ hqn
          refine Cd.skip ?_
          refine Cd.mid (fun σ' L' => ∃ (K : IV) (mv2 : Bool), Has σ' [(1, .pointer (some ⟨g1, 0, none⟩)), (3, .slice (some ⟨gi, 0, none⟩) n n), (7, .bool mv2), (10, .pointer (some ⟨g10, 0, none⟩)), (51, .slice f.bA f.blocks.length f.bC), (52, .int .i64 n), (53, .int .i64 k), (75, .slice A75 to.length c75), (76, .int .i64 to.length), (77, .int .i64 j)] ∧
            [row (.slice A75 to.length c75) 3 1 to.length (ints to), blk g10 (.cells (encV O) 128), blk g9 (.cells b.cells.toArray 50), blk gi (.cells (inA n K) 128), LF] = L' ∧ Val f K ∧ (mv2 = true → muI n K < muI n I) ∧ (mv2 = false → mv = false ∧ K = J ∧ ∀ m ∈ to.take (j + 1), Stab J O m.toNat)) ?_ ?_
          · refine Cd.block ?_   -- 11
            refine Cd.seq ?_
            refine Cd.region ?_
            refine Ol.p (ixn1 (ix := j) sl_L_int (Som.row (i := 0) rfl (by omega))) ?_
            refine Ol.p (ld one_int (Rd.row (i := 0) rfl (ints_at hm))) ?_
            refine Ol.p asi ?_
            refine Ol.nil ?_
            refine Cd.seq ?_
            obtain ⟨nx, hnx⟩ : ∃ nx : VS, nx = fun v => K q v && O v := ⟨_, rfl⟩
            refine Cd.draw mixed 7 (fun opNo => match opNo with | 5 => some (Is (.agg (encV nx))) | 6 => some (NewPv (.cells (Array.replicate 201 (.bool false)) 128)) | _ => none) (fun _ => []) (by kernel_rfl) (by intro q V h; split at h <;> cases h; exact ⟨_, [], rfl, rfl⟩; exact ⟨_, _, 0, rfl, rfl⟩) (fun u hu => ?_)
            refine Wk.p mvs ?_
            refine Wk.p mvi ?_
            refine Wk.p (ixi (ix := q) sl_L_ir_set) ?_
            refine Wk.p (ldp (k := q * 201) (vs := encV (K q)) ag_ir_set (i := 3) rfl (encV_size _) (inA_load hqn)) ?_
            refine Wk.p (ldw ag_ir_set (i := 1) rfl (encV_size _)) ?_
            refine Wk.x (V := Is (.agg (encV nx))) hu (by rw [hnx]; exact sp_call en_ir_set_meet (fun M w' hh => ir_set_meet_ct)) ?_
            rintro _ _ hu5 ⟨rfl, rfl⟩
            refine Wk.x (V := NewPv (.cells (Array.replicate 201 (.bool false)) 128)) hu (NewP.adds (alc zr_ir_set)) ?_
            rintro _ _ hu6 ⟨g15, rfl, rfl⟩
            refine Wk.nil ?_
            rw [needs_cons hu6, needs_cons hu5, needs_none]
            refine Ol.s (stw sz_ir_set (encV_size _) (encV_one _) (i := 0) rfl rfl) ?_
            refine Ol.nil ?_
            refine Cd.seq ?_
            refine Cd.draw mixed 6 (fun _ => none) (fun _ => []) (by kernel_rfl) (fun _ _ h => by cases h) (fun u hu => ?_)
            refine Wk.p (ldw ag_ir_set (i := 0) rfl (encV_size _)) ?_
            refine Wk.p mvs ?_
            refine Wk.p mvi ?_
            refine Wk.p (ixi (ix := q) sl_L_ir_set) ?_
            refine Wk.p (ldp (k := q * 201) (vs := encV (K q)) ag_ir_set (i := 4) rfl (encV_size _) (inA_load hqn)) ?_
            refine Wk.p (nea cm_ir_set (encV_size _) (encV_size _) encV_tell (sameV_iff (s := nx) (t := K q))) ?_
            refine Wk.nil ?_
            refine Ol.nil ?_
            have hle2 : ∀ v, v < 201 → nx v = true → K q v = true := fun v _ h => by
              rw [hnx] at h
              exact (Bool.and_eq_true_iff.1 h).1
            refine Cd.cond rfl (fun h2 => ?_) (fun h2 => ?_)   -- $92
            · have hns : sameV nx (K q) = false := by simpa using h2
              have hmu : muI n (setI K q nx) < muI n K := by
                refine muI_set hqn ?_
                unfold sameV at hns
                rw [List.all_eq_false] at hns
                obtain ⟨v, hv, h3⟩ := hns
                have hv : v < 201 := by simpa using hv
                have h3 : nx v ≠ K q v := by simpa using h3
                have h4 := hle2 v hv
                cases h5 : nx v with
                | true => rw [h5] at h3 h4; exact absurd (h4 rfl).symm h3
                | false =>
                  cases h6 : K q v with
                  | false => rw [h5, h6] at h3; exact absurd rfl h3
                  | true => exact cntB_lt hle2 hv h5 h6
              refine Cd.region ?_
              refine Ol.p mvs ?_
              refine Ol.p mvi ?_
              refine Ol.p (ldw ag_ir_set (i := 0) rfl (encV_size _)) ?_
              refine Ol.p (ixi (ix := q) sl_L_ir_set) ?_
              refine Ol.s (sta (k := q * 201) sz_ir_set (encV_size _) (encV_one _) (i := 4) rfl (by rw [inA_size]; omega)) ?_
              refine Ol.p asb ?_
              refine Ol.keep (.sub (.cons _ (List.Sublist.refl _))) ?_
              refine Ol.nil ?_
              refine ⟨setI K q nx, true, ⟨rfl, rfl, rfl, rfl, rfl, rfl, rfl, rfl, rfl, rfl, trivial⟩, congrArg (fun cs => [row (.slice A75 to.length c75) 3 1 to.length (ints to), blk g10 (.cells (encV O) 128), blk g9 (.cells b.cells.toArray 50), blk gi (.cells cs 128), LF]) (inA_sta hqn).symm, ?_, fun _ => ?_, fun h => by cases h⟩
              · rw [hnx]
                exact hVK.turn hb (by rw [← hto2]; exact hmm) (by omega) hOut
              · cases hmv : mv2 with
                | true => have := hkt hmv; omega
                | false =>
                  obtain ⟨h7, h8, _⟩ := hkf hmv
                  have h9 := (hmf h7).1
                  rw [h8, h9] at hmu
                  rw [h8, h9]; exact hmu
            have hss : sameV nx (K q) = true := by simpa using h2
            refine Cd.keep (.sub (.cons _ (List.Sublist.refl _))) ?_
            refine Cd.skip ?_
            refine ⟨K, mv2, ⟨rfl, rfl, rfl, rfl, rfl, rfl, rfl, rfl, rfl, rfl, trivial⟩, rfl, hVK, hkt, fun h => ?_⟩
            obtain ⟨h7, h8, h9⟩ := hkf h
            refine ⟨h7, h8, fun m hm2 => ?_⟩
            rw [take_snoc_ hm] at hm2
            rcases List.mem_append.1 hm2 with h3 | h3
            · exact h9 m h3
            · have e : m = (q : Int) := by simpa using h3
              subst e
              rw [Int.toNat_natCast]
              intro v hv hJ
              have h10 := sameV_at hss hv
              rw [hnx] at h10
              rw [h8] at h10
              have h10 : (J q v && O v) = J q v := h10
              rw [hJ, Bool.true_and] at h10
              exact h10
          rintro σ' _ ⟨K, mv2, hs', rfl, hVK, hkt, hkf⟩
          refine Cd.has hs' ?_
          refine Cd.region ?_
          refine Ol.p addi ?_
          refine Ol.p mvi ?_
          refine Ol.nil ?_
          exact ⟨to.length - (j + 1), by omega, j + 1, K, mv2, rfl, by omega, ⟨rfl, rfl, rfl, rfl, rfl, rfl, rfl, rfl, rfl, rfl, trivial⟩, rfl, hVK, hkt, hkf⟩
        have hj2 : j = to.length := by
          simp only [decide_eq_false_iff_not] at h; omega
        subst hj2
        rw [List.take_length] at hkf
        refine Cd.exit (id := 10) ?_
        refine Cd.keep (.sub (.cons _ (.cons _ (.cons _ (List.Sublist.refl _))))) ?_
        refine Cd.region ?_
        refine Ol.p addi ?_
        refine Ol.p mvi ?_
        refine Ol.nil ?_
        refine ⟨n - (k + 1), by omega, k + 1, K, mv2, rfl, by omega, ⟨rfl, rfl, rfl, rfl, rfl, rfl, trivial⟩, rfl, hVK, hkt, fun h => ?_⟩
        obtain ⟨h7, h8, h9⟩ := hkf h
        obtain ⟨h10, h11⟩ := hmf h7
        refine ⟨h8.trans h10, fun a x ha hx t ht => ?_⟩
        by_cases e : a = k
        · subst e
          rw [hb] at hx
          cases hx
          have := h9 (t : Int) (by rw [hto2]; exact ht)
          rw [hO, h10, Int.toNat_natCast] at this
          exact this
        · exact h11 a x (by omega) hx t ht
      have hk2 : k = n := by
        simp only [decide_eq_false_iff_not] at h; omega
      subst hk2
      refine Cd.exit (id := 6) ?_
      refine ⟨muI k J + (if mv = true then 1 else 0), ?_, J, mv, rfl, hVJ, fun h a x hx t ht => ?_, ⟨rfl, rfl, rfl, trivial⟩, by rw [hLF]⟩
      · cases hmv : mv with
        | true => have := hmt hmv; simp only [if_true]; omega
        | false => have := (hmf hmv).1; rw [this]; simp
      · obtain ⟨h10, h11⟩ := hmf h
        rw [h10]
        exact h11 a x (by rw [hn]; exact (List.getElem?_eq_some_iff.1 hx).1) hx t ht
    refine Cd.exit (id := 4) ?_
    exact ⟨⟨rfl, rfl, trivial⟩, I, fun b v hv => hV.fin (hst h) hv, rfl⟩
  rintro σ' _ ⟨hs', I, hI, rfl⟩
  refine Cd.has hs' ?_
  clear hs'
  have hval := valued_of hI
  refine Cd.seq ?_
  refine Cd.seq ?_
  rw [hLF]
  refine Cd.region ?_
  refine Ol.p (fdl fd_api_Func_1) ?_
  refine Ol.p (ld one_L_api_Block (Rd.blk (i := 1) rfl rfl)) ?_
  refine Ol.p (lens sl_L_api_Block) ?_
  refine Ol.p mvi ?_
  refine Ol.nil ?_
  refine Cd.block ?_   -- 12
  refine Cd.loop (fun m σ L => ∃ k, m = n - k ∧ k ≤ n ∧ Has σ [(3, .slice (some ⟨gi, 0, none⟩) n n), (100, .slice f.bA f.blocks.length f.bC), (101, .int .i64 n), (102, .int .i64 k)] ∧ [blk gi (.cells (inA n I) 128), LF] = L ∧ ∀ (b : Nat) (x : RBlk), b < k → f.blocks[b]? = some x → okPast x.ins x.term (I b) = true) (n := n) ⟨0, rfl, Nat.zero_le _, ⟨rfl, rfl, by rw [hn]; rfl, rfl, trivial⟩, by rw [hLF], fun b x hb => by omega⟩ ?_
  rintro _ σ L ⟨k, rfl, hk, hs, rfl, hall⟩
  refine Cd.has hs ?_
  refine Cd.seq ?_
  refine Cd.region ?_
  refine Ol.p lsi ?_
  refine Ol.nil ?_
  refine Cd.seq ?_
  refine Cd.cond rfl (fun h => ?_) (fun h => ?_)   -- $103
  · have hlt : k < n := by
      simp only [decide_eq_true_eq] at h; omega
    obtain ⟨b, hb⟩ : ∃ b, f.blocks[k]? = some b := ⟨_, List.getElem?_eq_getElem (by omega)⟩
    have hba := hf.blk hfit (List.mem_of_getElem? hb)
    refine Cd.skip ?_
    refine Cd.seq ?_
    refine Cd.block ?_   -- 13
    refine Cd.seq ?_
    refine Cd.region ?_
    refine Ol.p mvi ?_
    refine Ol.p (ixn (ix := k) sl_L_api_Block (Som.slc hf.blocks (by omega))) ?_
    refine Ol.p (lds (es := b.cells) ag_api_Block hf.blocks b.len (fun j u hu => blk_cell hb hu)) ?_
    refine Ol.x (alc zr_api_Block) ?_
    rintro _ _ ⟨g17, rfl, rfl⟩
    refine Ol.p asi ?_
    refine Ol.s (stw sz_api_Block rfl b.one (i := 0) rfl rfl) ?_
    refine Ol.nil ?_
    refine Cd.seq ?_
    refine Cd.drawT (L0 := [blk g17 (.cells b.cells.toArray 50), blk gi (.cells (inA n I) 128), LF]) mixed 11 (fun opNo => match opNo with | 5 => some (fun v R => ∃ s', v = .tuple #[.agg (encV s'), .bool (okPast b.ins b.term (I k))] ∧ R = []) | 9 => some (NewPv (.cells (Array.replicate 201 (.bool false)) 128)) | 10 => some (fun v R => v = undef ∧ ∃ g cs, R = [blk g (.cells cs 128)]) | _ => none) (fun opNo => match opNo with | 10 => [9] | _ => []) (fun opNo => match opNo with | 10 => some 9 | _ => none) [] (fun _ => []) (by kernel_rfl) (.refl _) (by intro c hc; cases hc) (by intro q V h; split at h <;> cases h; exact ⟨_, _, fun _ => false, rfl, rfl⟩; exact ⟨_, _, 0, rfl, rfl⟩; exact ⟨_, _, rfl, 0, #[], rfl⟩) (fun u hu hu0 => ?_)
    refine WkT.p mvs ?_
    refine WkT.p mvi ?_
    refine WkT.p (ixi (ix := k) sl_L_ir_set) ?_
    refine WkT.p (ldp (k := k * 201) (vs := encV (I k)) ag_ir_set (i := 1) rfl (encV_size _) (inA_load hlt)) ?_
    refine WkT.p (ldw ag_api_Block (i := 0) rfl rfl) ?_
    refine WkT.xn (V := fun v R => ∃ s', v = .tuple #[.agg (encV s'), .bool (okPast b.ins b.term (I k))] ∧ R = []) (l := []) (l2 := []) hu rfl rfl rfl (by rw [needs_none]; exact (sp_call en_ir_set_past (fun M w' hh => ir_set_past_ct (s := I k) (hba.now hh)))) ?_
    rintro _ _ hu5 ⟨s5, rfl, rfl⟩
    refine WkT.p mvt ?_
    refine WkT.p extv ?_
    refine WkT.p extv ?_
    refine WkT.xn (V := NewPv (.cells (Array.replicate 201 (.bool false)) 128)) (l := []) (l2 := []) hu rfl rfl rfl (by rw [needs_none]; exact (NewP.adds (alc zr_ir_set))) ?_
    rintro _ _ hu9 ⟨g18, rfl, rfl⟩
    refine WkT.xn (V := fun v R => v = undef ∧ ∃ g cs, R = [blk g (.cells cs 128)]) (l := [9]) (l2 := []) hu rfl rfl rfl (by rw [needs_cons hu9, needs_none]; exact (trn_any (stw sz_ir_set (encV_size _) (encV_one _) (i := 0) rfl rfl))) ?_
    rintro _ _ hu10 ⟨rfl, g18b, cs18, rfl⟩
    refine WkT.nil ?_
    change Ol _ _ _ _ _ (needs u [10, 5] _)
    rw [needs_cons hu10, needs_cons hu5, needs_none]
    refine Ol.p asb ?_
    refine Ol.nil ?_
    refine Cd.seq ?_
    refine Cd.region ?_
    refine Ol.p mvb ?_
    refine Ol.p noti ?_
    refine Ol.nil ?_
    refine Cd.cond rfl (fun h2 => ?_) (fun h2 => ?_)   -- $117
    · have h3 : okPast b.ins b.term (I k) = false := by simpa using h2
      refine Cd.seq ?_
      refine Cd.region ?_
      refine Ol.p asb ?_
      refine Ol.nil ?_
      refine Cd.ret ⟨.bool _, ret1 rfl rfl, [], .nil, ?_, rfl⟩
      have : valuedF f = false := by
        rw [hval, List.all_eq_false]
        refine ⟨k, by simp; omega, ?_⟩
        rw [hb]
        simp [h3]
      rw [this]
    have h3 : okPast b.ins b.term (I k) = true := by simpa using h2
    refine Cd.keep (.sub (.cons _ (.cons _ (List.Sublist.refl _)))) ?_
    refine Cd.skip ?_
    refine Cd.region ?_
    refine Ol.p addi ?_
    refine Ol.p mvi ?_
    refine Ol.nil ?_
    refine ⟨n - (k + 1), by omega, k + 1, rfl, by omega, ⟨rfl, rfl, rfl, rfl, trivial⟩, rfl, fun c x hc hx => ?_⟩
    by_cases e : c = k
    · subst e
      rw [hb] at hx; cases hx
      exact h3
    · exact hall c x (by omega) hx
  have hk2 : k = n := by
    simp only [decide_eq_false_iff_not] at h; omega
  subst hk2
  refine Cd.exit (id := 12) ?_
  refine Cd.seq ?_
  refine Cd.region ?_
  refine Ol.p asb ?_
  refine Ol.nil ?_
  refine Cd.ret ⟨.bool _, ret1 rfl rfl, [], .nil, ?_, rfl⟩
  have : valuedF f = true := by
    rw [hval, List.all_eq_true]
    intro b hb
    have hb : b < f.blocks.length := by simpa using hb
    have h3 := hall b _ (by omega) (List.getElem?_eq_getElem hb)
    rw [List.getElem?_eq_getElem hb]
    exact h3
  rw [this]
end
end Go.Proofs.Ytcojedoejpcolaa

/- The package ir: whether a function is right, walked. -/
namespace Go.Proofs.Ytcojedoejpcolaa
set_option linter.unusedVariables false
open Go Go.RowKit
set_option maxRecDepth 100000

noncomputable def rightF (f : RFun) : Int := bif longF f then 3 else bif !wholeF f then 2 else bif !okEs f.terms || decide ((orderF f.terms).length < f.blocks.length) then 9 else bif !valuedF f then 8 else 0
theorem rightF_iff {f : RFun} : rightF f = 0 ↔ longF f = false ∧ wholeF f = true ∧ okEs f.terms = true ∧ f.blocks.length ≤ (orderF f.terms).length ∧ valuedF f = true := by
  unfold rightF
  cases longF f <;> cases wholeF f <;> cases okEs f.terms <;> cases valuedF f <;> cases h : decide ((orderF f.terms).length < f.blocks.length) <;> simp_all
theorem long_parts {f : RFun} (h : longF f = false) : 0 < f.blocks.length ∧ f.blocks.length ≤ 200 ∧ f.params.length ≤ 8 ∧ ∀ b ∈ f.blocks, b.ins.length ≤ 64 := by
  unfold longF at h
  simp only [Bool.or_eq_false_iff, decide_eq_false_iff_not, List.any_eq_false] at h
  exact ⟨by omega, by omega, by omega, fun b hb => by have := h.2 b hb; simp at this; omega⟩
section
set_option maxHeartbeats 1000000 in
theorem ir_Right_ct {w : World} {f : RFun} (hf : FunAt w w.heap.size f) (hfit : Fit f) : Ct Try.prog 30 #[f.val] w (Is (.int .i64 (rightF f))) := by
  refine Ct.mk Try.func30 rfl rfl ?_
  refine Cd.seq ?_
  refine Cd.region ?_
  refine Ol.x bxg ?_
  rintro _ _ ⟨g1, rfl, rfl⟩
  refine Ol.p asi ?_
  refine Ol.nil ?_
  refine Cd.seq ?_
  refine Cd.seq ?_
  refine Cd.region ?_
  refine Ol.p (ldw ag_api_Func (i := 0) rfl rfl) ?_
  refine Ol.s (cl en_ir_long (fun M w' hh => ir_long_ct (hf.now hh) hfit)) ?_
  refine Ol.nil ?_
  refine Cd.cond rfl (fun hl => ?_) (fun hl => ?_)   -- $6
  · refine Cd.seq ?_
    refine Cd.region ?_
    refine Ol.p asi ?_
    refine Ol.nil ?_
    exact Cd.ret ⟨.int .i64 _, ret1 rfl rfl, [], .nil, by unfold rightF; rw [hl]; rfl, rfl⟩
  obtain ⟨h0, h200, _, _⟩ := long_parts hl
  refine Cd.skip ?_
  refine Cd.seq ?_
  refine Cd.seq ?_
  refine Cd.region ?_
  refine Ol.p (ldw ag_api_Func (i := 0) rfl rfl) ?_
  refine Ol.s (cl en_ir_whole (fun M w' hh => ir_whole_ct (hf.now hh) hfit)) ?_
  refine Ol.p noti ?_
  refine Ol.nil ?_
  refine Cd.cond rfl (fun hw => ?_) (fun hw => ?_)   -- $9
  · refine Cd.seq ?_
    refine Cd.region ?_
    refine Ol.p asi ?_
    refine Ol.nil ?_
    exact Cd.ret ⟨.int .i64 _, ret1 rfl rfl, [], .nil, by unfold rightF; rw [hl, hw]; rfl, rfl⟩
  have hwt : wholeF f = true := by simpa using hw
  have e1 : rightF f = bif !okEs f.terms || decide ((orderF f.terms).length < f.blocks.length) then 9 else bif !valuedF f then 8 else 0 := by unfold rightF; rw [hl, hw]; rfl
  refine Cd.skip ?_
  refine Cd.seq ?_
  cases hok : okEs f.terms with
  | false =>
    refine Cd.seq ?_
    refine Cd.region ?_
    refine Ol.p (ldw ag_api_Func (i := 0) rfl rfl) ?_
    refine Ol.s (cl en_ir_reach (fun M w' hh => ir_reach_ct (hf.now hh) hfit h0 h200)) ?_
    refine Ol.p (mv (by rw [hok])) ?_
    refine Ol.p extv ?_
    refine Ol.p extv ?_
    refine Ol.p asi ?_
    refine Ol.p asb ?_
    refine Ol.nil ?_
    refine Cd.seq ?_
    refine Cd.region ?_
    refine Ol.p mvb ?_
    refine Ol.p noti ?_
    refine Ol.p mvb ?_
    refine Ol.gn rfl ?_
    refine Ol.gn rfl ?_
    refine Ol.gn rfl ?_
    refine Ol.gn rfl ?_
    refine Ol.gn rfl ?_
    refine Ol.p (pkTb rfl) ?_
    refine Ol.nil ?_
    refine Cd.cond rfl (fun h => ?_) (fun h => by cases h)   -- $23
    refine Cd.seq ?_
    refine Cd.region ?_
    refine Ol.p asi ?_
    refine Ol.nil ?_
    exact Cd.ret ⟨.int .i64 _, ret1 rfl rfl, [], .nil, by rw [e1, hok]; rfl, rfl⟩
  | true =>
    have e2 : decide (((orderF f.terms).length : Int) < (f.blocks.length : Int)) = decide ((orderF f.terms).length < f.blocks.length) := by rw [decide_eq_decide]; omega
    refine Cd.seq ?_
    refine Cd.region ?_
    refine Ol.p (ldw ag_api_Func (i := 0) rfl rfl) ?_
    refine Ol.s (cl en_ir_reach (fun M w' hh => ir_reach_ct (hf.now hh) hfit h0 h200)) ?_
    refine Ol.p (mv (by rw [hok])) ?_
    refine Ol.p extv ?_
    refine Ol.p extv ?_
    refine Ol.p asi ?_
    refine Ol.p asb ?_
    refine Ol.nil ?_
    refine Cd.seq ?_
    refine Cd.region ?_
    refine Ol.p mvb ?_
    refine Ol.p noti ?_
    refine Ol.p mvb ?_
    refine Ol.gp rfl mvi ?_
    refine Ol.gp rfl (fdl fd_api_Func_1) ?_
    refine Ol.gp rfl (ld one_L_api_Block (Rd.blk (i := 0) rfl rfl)) ?_
    refine Ol.gp rfl (lens sl_L_api_Block) ?_
    refine Ol.gp rfl lsi ?_
    refine Ol.p (pkFb rfl) ?_
    refine Ol.nil ?_
    rw [e2]
    refine Cd.cond rfl (fun h => ?_) (fun h => ?_)   -- $23
    · refine Cd.seq ?_
      refine Cd.region ?_
      refine Ol.p asi ?_
      refine Ol.nil ?_
      exact Cd.ret ⟨.int .i64 _, ret1 rfl rfl, [], .nil, by rw [e1, hok, h]; rfl, rfl⟩
    refine Cd.skip ?_
    refine Cd.seq ?_
    refine Cd.seq ?_
    refine Cd.region ?_
    refine Ol.p (ldw ag_api_Func (i := 0) rfl rfl) ?_
    refine Ol.s (cl en_ir_valued (fun M w' hh => ir_valued_ct (hf.now hh) hfit hl hwt hok)) ?_
    refine Ol.p noti ?_
    refine Ol.nil ?_
    refine Cd.cond rfl (fun h2 => ?_) (fun h2 => ?_)   -- $26
    · refine Cd.seq ?_
      refine Cd.region ?_
      refine Ol.p asi ?_
      refine Ol.nil ?_
      exact Cd.ret ⟨.int .i64 _, ret1 rfl rfl, [], .nil, by rw [e1, hok, h, h2]; rfl, rfl⟩
    refine Cd.skip ?_
    refine Cd.seq ?_
    refine Cd.region ?_
    refine Ol.p asi ?_
    refine Ol.nil ?_
    exact Cd.ret ⟨.int .i64 _, ret1 rfl rfl, [], .nil, by rw [e1, hok, h, h2]; rfl, rfl⟩
end
end Go.Proofs.Ytcojedoejpcolaa

/- Functions told by what they hold, not where: plain laws. -/
namespace Go.Proofs.Ytcojedoejpcolaa
set_option linter.unusedVariables false
open Go Go.RowKit

def RIns.bare (i : RIns) : RIns := { i with aA := none, aC := 0 }
def RBlk.bare (b : RBlk) : RBlk := { b with iA := none, iC := 0, ins := b.ins.map RIns.bare }
def RFun.bare (f : RFun) : RFun := { f with pA := none, pC := 0, bA := none, bC := 0, blocks := f.blocks.map RBlk.bare }
theorem isIns_bare (i : RIns) : isIns i.bare = isIns i := rfl
theorem readsL_bare (i : RIns) : readsL i.bare = readsL i := rfl
theorem defI_bare (i : RIns) : defI i.bare = defI i := rfl
theorem exposed_bare : ∀ (l : List RIns) (t : Tm) (v : Int), exposed (l.map RIns.bare) t v = exposed l t v
  | [], _, _ => rfl
  | i :: l, t, v => by
    show ((readsL i.bare).contains v || (!decide (defI i.bare = v) && exposed (l.map RIns.bare) t v)) = _
    rw [exposed_bare l t v]; rfl
theorem terms_bare (f : RFun) : f.bare.terms = f.terms := by
  unfold RFun.terms RFun.bare
  rw [List.map_map]
  rfl
theorem longF_bare (f : RFun) : longF f.bare = longF f := by
  unfold longF RFun.bare
  simp only [List.length_map, List.any_map]
  congr 1
  apply congrArg
  funext b
  simp [Function.comp, RBlk.bare]
theorem wholeF_bare (f : RFun) : wholeF f.bare = wholeF f := by
  unfold wholeF RFun.bare
  simp only [List.all_map]
  congr 1
  apply congrArg
  funext b
  simp only [Function.comp, wholeB, RBlk.bare, List.all_map]
  rfl
theorem blk_bare {f : RFun} {b : Nat} {x : RBlk} (h : f.blocks[b]? = some x) : f.bare.blocks[b]? = some x.bare := by
  unfold RFun.bare
  rw [List.getElem?_map, h]; rfl
theorem blk_unbare {f : RFun} {b : Nat} {x : RBlk} (h : f.bare.blocks[b]? = some x) : ∃ y, f.blocks[b]? = some y ∧ x = y.bare := by
  unfold RFun.bare at h
  rw [List.getElem?_map] at h
  cases hb : f.blocks[b]? with
  | none => rw [hb] at h; cases h
  | some y => rw [hb] at h; exact ⟨y, rfl, (Option.some.inj h).symm⟩
theorem Bare_bare {f : RFun} {v b : Nat} : Bare f.bare v b ↔ Bare f v b := by
  constructor
  · intro h
    induction h with
    | zero hp => exact .zero hp
    | step _ ha hd ht ih =>
      obtain ⟨y, hy, rfl⟩ := blk_unbare ha
      exact .step ih hy (fun i hi => hd i.bare (List.mem_map_of_mem hi)) ht
  · intro h
    induction h with
    | zero hp => exact .zero hp
    | step _ ha hd ht ih =>
      refine .step ih (blk_bare ha) (fun i hi => ?_) ht
      obtain ⟨j, hj, rfl⟩ := List.mem_map.1 hi
      exact hd j hj
theorem valuedF_bare (f : RFun) : valuedF f.bare = valuedF f := by
  rw [Bool.eq_iff_iff, valuedF_iff, valuedF_iff]
  constructor
  · intro h b x v hx he hb
    exact h b x.bare v (blk_bare hx) (by show exposed (x.ins.map RIns.bare) x.term v = true; rw [exposed_bare]; exact he) (Bare_bare.2 hb)
  · intro h b x v hx he hb
    obtain ⟨y, hy, rfl⟩ := blk_unbare hx
    exact h b y v hy (by rw [← exposed_bare]; exact he) (Bare_bare.1 hb)
theorem rightF_bare (f : RFun) : rightF f.bare = rightF f := by
  unfold rightF
  rw [longF_bare, wholeF_bare, terms_bare, valuedF_bare]
  unfold RFun.bare
  simp
theorem rightF_same {f g : RFun} (h : g.bare = f.bare) : rightF g = rightF f := by rw [← rightF_bare, h, rightF_bare]
theorem bare_lens {f g : RFun} (h : g.bare = f.bare) : g.params = f.params ∧ g.blocks.length = f.blocks.length := by
  have h1 := congrArg RFun.params h
  have h2 := congrArg (fun x : RFun => x.blocks.length) h
  simp [RFun.bare] at h1 h2
  exact ⟨h1, h2⟩
end Go.Proofs.Ytcojedoejpcolaa

/- Lists of resources told apart by counting. -/
namespace Go.Proofs.Ytcojedoejpcolaa
theorem perm_count {α : Type} {l l' : List α} (h : ∀ (_ : DecidableEq α) (x : α), l.count x = l'.count x) : l.Perm l' := by
  haveI : DecidableEq α := fun a b => Classical.propDecidable (a = b)
  exact List.perm_iff_count.2 fun x => h _ x
theorem keep_count {L L' : List Res} (D : List Res) (h : ∀ (_ : DecidableEq Res) (x : Res), L.count x = (L' ++ D).count x) : Keep L L' := ⟨D, perm_count h⟩
end Go.Proofs.Ytcojedoejpcolaa

/- A function in memory of its own: what is held of it; copies, walked. -/
namespace Go.Proofs.Ytcojedoejpcolaa
set_option linter.unusedVariables false
open Go Go.RowKit
set_option maxRecDepth 100000

def insRes (i : RIns) : Res := row (.slice i.aA i.args.length i.aC) 3 1 i.args.length (ints i.args)
def insRow (b : RBlk) : Res := row (.slice b.iA b.ins.length b.iC) 25 8 b.ins.length (b.ins.flatMap RIns.cells)
def blkRes (b : RBlk) : List Res := insRow b :: b.ins.map insRes
def prmRow (f : RFun) : Res := row (.slice f.pA f.params.length f.pC) 3 1 f.params.length (ints f.params)
def blkRow (f : RFun) : Res := row (.slice f.bA f.blocks.length f.bC) 50 5 f.blocks.length (f.blocks.flatMap RBlk.cells)
def funRes (f : RFun) : List Res := prmRow f :: blkRow f :: f.blocks.flatMap blkRes
theorem mem_blkRes {f : RFun} {b : RBlk} {r : Res} (hb : b ∈ f.blocks) (hr : r ∈ blkRes b) : r ∈ funRes f := by
  unfold funRes
  exact List.mem_cons_of_mem _ (List.mem_cons_of_mem _ (List.mem_flatMap.2 ⟨b, hb, hr⟩))
section
variable {w0 w : World} {B : Nat} {M L : List Res} {g : RFun}
theorem FunAt.own (hh : Hp w0 B (M ++ L) w) (hs : ∀ r ∈ funRes g, r ∈ L) : FunAt w w.heap.size g := by
  have key : ∀ {A : Option Addr} {n c e s : Nat} {xs : List Value}, row (.slice A n c) e s n xs ∈ funRes g → Reads w w.heap.size s A n xs := fun hm => by
    obtain ⟨i, hi⟩ := List.mem_iff_getElem?.1 (hs _ hm)
    exact Reads.row hh hi
  exact ⟨key (List.mem_cons_self ..), key (List.mem_cons_of_mem _ (List.mem_cons_self ..)), fun b hb => key (mem_blkRes hb (List.mem_cons_self ..)), fun b hb i hi => key (mem_blkRes hb (List.mem_cons_of_mem _ (List.mem_map_of_mem hi)))⟩
theorem cap_row {A : Option Addr} {n c e s : Nat} {xs : List Value} (h : w.ownsRow 0 e s (.slice A n c) n xs) : n ≤ c := by
  rcases h.2 with ⟨hv, h0⟩ | ⟨g, cap, cur, hv, _, _, hn, _⟩
  · omega
  · injection hv with _ _ hc
    omega
/-- Its numbers are numbers, it is not endless. -/
structure FitC (f : RFun) : Prop where
  params : ∀ n ∈ f.params, -9223372036854775808 ≤ n ∧ n ≤ 9223372036854775807
  plen : f.params.length < 2 ^ 50
  blen : f.blocks.length < 2 ^ 50
  ilen : ∀ b ∈ f.blocks, b.ins.length < 2 ^ 50
  term : ∀ b ∈ f.blocks, ∀ n ∈ [b.term.kind, b.term.a, b.term.t0, b.term.t1], -9223372036854775808 ≤ n ∧ n ≤ 9223372036854775807
  insr : ∀ b ∈ f.blocks, ∀ i ∈ b.ins, ∀ n ∈ [i.op, i.dst, i.a, i.b, i.imm, i.callee, i.many], -9223372036854775808 ≤ n ∧ n ≤ 9223372036854775807
  alen : ∀ b ∈ f.blocks, ∀ i ∈ b.ins, i.args.length < 2 ^ 50
  argr : ∀ b ∈ f.blocks, ∀ i ∈ b.ins, ∀ n ∈ i.args, -9223372036854775808 ≤ n ∧ n ≤ 9223372036854775807
theorem Fit.c {f : RFun} (h : Fit f) : FitC f := ⟨h.params, h.plen, h.blen, h.ilen, h.term, h.insr, h.alen, h.argr⟩
theorem FitC.fit (h : FitC g) (hh : Hp w0 B (M ++ L) w) (hs : ∀ r ∈ funRes g, r ∈ L) : Fit g := by
  have key : ∀ {A : Option Addr} {n c e s : Nat} {xs : List Value}, row (.slice A n c) e s n xs ∈ funRes g → n ≤ c := fun hm => cap_row (hh.has _ (List.mem_append_right _ (hs _ hm)))
  exact ⟨h.params, h.plen, h.blen, key (List.mem_cons_self ..), key (List.mem_cons_of_mem _ (List.mem_cons_self ..)), h.ilen, fun b hb => key (mem_blkRes hb (List.mem_cons_self ..)), h.term, h.insr, h.alen, fun b hb i hi => key (mem_blkRes hb (List.mem_cons_of_mem _ (List.mem_map_of_mem hi))), h.argr⟩
theorem FitC.bare {f : RFun} (h : FitC f) : FitC f.bare := by
  have hb : ∀ b ∈ f.bare.blocks, ∃ y ∈ f.blocks, b = y.bare := fun b hb => by
    obtain ⟨y, hy, e⟩ := List.mem_map.1 hb
    exact ⟨y, hy, e.symm⟩
  have hi : ∀ (y : RBlk), ∀ i ∈ y.bare.ins, ∃ j ∈ y.ins, i = j.bare := fun y i hi => by
    obtain ⟨j, hj, e⟩ := List.mem_map.1 hi
    exact ⟨j, hj, e.symm⟩
  refine ⟨h.params, h.plen, by simpa [RFun.bare] using h.blen, fun b hb' => ?_, fun b hb' => ?_, fun b hb' i hi' => ?_, fun b hb' i hi' => ?_, fun b hb' i hi' => ?_⟩
  · obtain ⟨y, hy, rfl⟩ := hb b hb'
    simpa [RBlk.bare] using h.ilen y hy
  · obtain ⟨y, hy, rfl⟩ := hb b hb'
    exact h.term y hy
  all_goals
    obtain ⟨y, hy, rfl⟩ := hb b hb'
    obtain ⟨j, hj, rfl⟩ := hi y i hi'
    first | exact h.insr y hy j hj | exact h.alen y hy j hj | exact h.argr y hy j hj
theorem FitC.unbare {f : RFun} (h : FitC f.bare) : FitC f := by
  have hb : ∀ b ∈ f.blocks, b.bare ∈ f.bare.blocks := fun b hb => List.mem_map_of_mem hb
  have hi : ∀ (y : RBlk), ∀ i ∈ y.ins, i.bare ∈ y.bare.ins := fun y i hi => List.mem_map_of_mem hi
  exact ⟨h.params, h.plen, by simpa [RFun.bare] using h.blen, fun b hb' => by simpa [RBlk.bare] using h.ilen _ (hb b hb'), fun b hb' => h.term b.bare (hb b hb'), fun b hb' i hi' => h.insr b.bare (hb b hb') i.bare (hi b i hi'), fun b hb' i hi' => h.alen b.bare (hb b hb') i.bare (hi b i hi'), fun b hb' i hi' => h.argr b.bare (hb b hb') i.bare (hi b i hi')⟩
theorem FitC.same {f : RFun} (h : FitC f) (e : g.bare = f.bare) : FitC g := FitC.unbare (e ▸ h.bare)
end
theorem one_flatI (l : List RIns) : ∀ u ∈ l.flatMap RIns.cells, u.oneCell' = true := fun u hu => by
  obtain ⟨i, _, h⟩ := List.mem_flatMap.1 hu
  exact i.one u h
theorem one_flatB (l : List RBlk) : ∀ u ∈ l.flatMap RBlk.cells, u.oneCell' = true := fun u hu => by
  obtain ⟨i, _, h⟩ := List.mem_flatMap.1 hu
  exact i.one u h
theorem one_ints (l : List Int) : ∀ u ∈ ints l, u.oneCell' = true := fun u hu => by
  obtain ⟨n, _, rfl⟩ := List.mem_map.1 hu
  rfl
/-- The place of a row in what is held; written, it is the row of another. -/
theorem flat_set {α β : Type} {F : α → List β} {x x' : α} {q : Nat} {A A' : β} (hA : (F x)[q]? = some A) (hx' : F x' = (F x).set q A') : ∀ {l : List α} {b : Nat}, l[b]? = some x → ∃ j, (l.flatMap F)[j]? = some A ∧ (l.flatMap F).set j A' = (l.set b x').flatMap F
  | [], b, h => by simp at h
  | y :: l, 0, h => by
    have e : y = x := by simpa using h
    subst e
    have hq := (List.getElem?_eq_some_iff.1 hA).1
    refine ⟨q, ?_, ?_⟩
    · rw [List.flatMap_cons, List.getElem?_append_left hq]; exact hA
    · rw [List.flatMap_cons, List.set_append_left _ _ hq, List.set_cons_zero, List.flatMap_cons, hx']
  | y :: l, b + 1, h => by
    obtain ⟨j, h1, h2⟩ := flat_set hA hx' (l := l) (b := b) (by simpa using h)
    refine ⟨(F y).length + j, ?_, ?_⟩
    · rw [List.flatMap_cons, List.getElem?_append_right (by omega)]
      rw [show (F y).length + j - (F y).length = j by omega]; exact h1
    · rw [List.flatMap_cons, List.set_append_right _ _ (by omega), show (F y).length + j - (F y).length = j by omega, h2, List.set_cons_succ, List.flatMap_cons]
/-- A slice's literal of one value of several cells. -/
theorem bs1 {P : Program} {w0 : World} {B : Nat} {σ : Env} {L : List Res} {d : Option Nat} {ty T : TypeId} {pos : String} {af : Array Edge} {gd : Option (Nat × Bool)} {e s b : Nat} {parts : List (Nat × Operand)} {zv v : Value} {cs : List Value} (hT : SlT P T e s b) (hz : ZrT P e zv) (hv : v.cells = cs.toArray) (hs : cs.length = s) (hb : s ≤ 16777216 := by decide) (hp : parts.map (fun p => (p.1, ev σ p.2)) = [(0, v)] := by exact rfl) :
    Sp P w0 B ⟨d, .buildSlice T 1 parts.toArray, ty, pos, af, gd⟩ σ L (NewS e s 1 1 cs L) := by
  have hvs : ∀ u ∈ [v], u.cells.size = s := by
    intro u hu
    simp only [List.mem_singleton] at hu
    rw [hu, hv]; simpa using hs
  have h := bsn (d := d) (ty := ty) (pos := pos) (af := af) (gd := gd) (P := P) (w0 := w0) (B := B) (L := L) [v] hT hz hvs rfl (by simp only [List.length_singleton]; omega) (by simp [maxLen]) hp
  have e1 : [v].flatMap (fun v => v.cells.toList) = cs := by simp [hv]
  rwa [e1] at h
theorem flat_set_at {α β : Type} {F : α → List β} {s : Nat} (hs : ∀ x, (F x).length = s) {c : Nat} {A' : β} {x x' : α} (hc : c < s) (hx' : F x' = (F x).set c A') : ∀ {l : List α} {k : Nat}, l[k]? = some x → (l.flatMap F).set (k * s + c) A' = (l.set k x').flatMap F
  | [], k, h => by simp at h
  | y :: l, 0, h => by
    have e : y = x := by simpa using h
    subst e
    rw [List.flatMap_cons, Nat.zero_mul, Nat.zero_add, List.set_append_left _ _ (by rw [hs]; exact hc), List.set_cons_zero, List.flatMap_cons, hx']
  | y :: l, k + 1, h => by
    have ih := flat_set_at hs hc hx' (l := l) (k := k) (by simpa using h)
    rw [List.flatMap_cons, List.set_append_right _ _ (by rw [hs, Nat.add_mul]; omega), hs, show (k + 1) * s + c - s = k * s + c by rw [Nat.add_mul]; omega, ih, List.set_cons_succ, List.flatMap_cons]
theorem flat_set_same {α β : Type} {F : α → List β} {y y' : α} (hF : F y' = F y) : ∀ {l : List α} {b : Nat}, l[b]? = some y → (l.set b y').flatMap F = l.flatMap F
  | [], b, h => by simp at h
  | z :: l, 0, h => by
    have e : z = y := by simpa using h
    subst e
    rw [List.set_cons_zero, List.flatMap_cons, List.flatMap_cons, hF]
  | z :: l, b + 1, h => by
    rw [List.set_cons_succ, List.flatMap_cons, List.flatMap_cons, flat_set_same hF (l := l) (b := b) (by simpa using h)]
def RFun.with (g : RFun) (bs : List RBlk) : RFun := { g with blocks := bs }
/-- Its instructions' row is written. -/
theorem own_ins {g : RFun} {b : Nat} {y : RBlk} (hb : g.blocks[b]? = some y) : ∃ j, (funRes g)[j]? = some (insRow y) ∧ ∀ l' : List RIns, l'.length = y.ins.length → l'.map insRes = y.ins.map insRes →
    (funRes g).set j (row (.slice y.iA y.ins.length y.iC) 25 8 y.ins.length (l'.flatMap RIns.cells)) = funRes (g.with (g.blocks.set b { y with ins := l' })) := by
  have key : ∀ l' : List RIns, l'.length = y.ins.length → l'.map insRes = y.ins.map insRes → ∃ j, (g.blocks.flatMap blkRes)[j]? = some (insRow y) ∧ (g.blocks.flatMap blkRes).set j (row (.slice y.iA y.ins.length y.iC) 25 8 y.ins.length (l'.flatMap RIns.cells)) = (g.blocks.set b { y with ins := l' }).flatMap blkRes := fun l' h1 h2 => by
    refine flat_set (q := 0) (x := y) (x' := { y with ins := l' }) rfl ?_ hb
    unfold blkRes insRow
    simp only [h1, h2, List.set_cons_zero]
  have hj : ∃ j, (g.blocks.flatMap blkRes)[j]? = some (insRow y) ∧ ∀ A', (g.blocks.flatMap blkRes).set j A' = (g.blocks.take b).flatMap blkRes ++ (A' :: y.ins.map insRes) ++ (g.blocks.drop (b + 1)).flatMap blkRes := by
    have hs := split_at hb
    have e : g.blocks.flatMap blkRes = (g.blocks.take b).flatMap blkRes ++ (insRow y :: y.ins.map insRes) ++ (g.blocks.drop (b + 1)).flatMap blkRes := by
      rw (occs := .pos [1]) [hs]
      rw [List.flatMap_append, List.flatMap_cons, ← List.append_assoc]
      rfl
    refine ⟨((g.blocks.take b).flatMap blkRes).length, ?_, fun A' => ?_⟩
    · rw [e, List.append_assoc, List.getElem?_append_right (Nat.le_refl _)]; simp
    · rw [e, List.append_assoc, List.set_append_right _ _ (Nat.le_refl _)]; simp
  obtain ⟨j, h1, h2⟩ := hj
  refine ⟨j + 2, h1, fun l' h3 h4 => ?_⟩
  show prmRow g :: blkRow g :: (g.blocks.flatMap blkRes).set j _ = _
  have hset : g.blocks.set b { y with ins := l' } = g.blocks.take b ++ { y with ins := l' } :: g.blocks.drop (b + 1) := set_split hb
  have hcells : (g.blocks.set b { y with ins := l' }).flatMap RBlk.cells = g.blocks.flatMap RBlk.cells := flat_set_same (by simp [RBlk.cells, h3]) hb
  unfold funRes
  congr 1
  congr 1
  · unfold blkRow RFun.with
    simp only [hcells, List.length_set]
  · rw [h2]
    show _ = (g.blocks.set b { y with ins := l' }).flatMap blkRes
    rw [hset, List.flatMap_append, List.flatMap_cons, ← List.append_assoc]
    congr 1
    congr 1
    unfold blkRes insRow
    simp only [h3, h4]
/-- An instruction's list is written. -/
theorem own_args {g : RFun} {b q : Nat} {y : RBlk} {i : RIns} (hb : g.blocks[b]? = some y) (hi : y.ins[q]? = some i) : ∃ j, (funRes g)[j]? = some (insRes i) ∧ ∀ ls : List Int, ls.length = i.args.length →
    (funRes g).set j (row (.slice i.aA i.args.length i.aC) 3 1 i.args.length (ints ls)) = funRes (g.with (g.blocks.set b { y with ins := y.ins.set q { i with args := ls } })) := by
  have e : g.blocks.flatMap blkRes = (g.blocks.take b).flatMap blkRes ++ (insRow y :: (y.ins.take q).map insRes) ++ (insRes i :: ((y.ins.drop (q + 1)).map insRes ++ (g.blocks.drop (b + 1)).flatMap blkRes)) := by
    have hs := split_at hb
    have hi2 := split_at hi
    have hbe : blkRes y = insRow y :: ((y.ins.take q).map insRes ++ insRes i :: (y.ins.drop (q + 1)).map insRes) := by
      unfold blkRes
      congr 1
      rw [← List.map_cons, ← List.map_append, ← hi2]
    rw (occs := .pos [1]) [hs]
    rw [List.flatMap_append, List.flatMap_cons, hbe]
    simp
  refine ⟨((g.blocks.take b).flatMap blkRes ++ (insRow y :: (y.ins.take q).map insRes)).length + 2, ?_, fun ls h3 => ?_⟩
  · refine Eq.trans (b := (g.blocks.flatMap blkRes)[((g.blocks.take b).flatMap blkRes ++ (insRow y :: (y.ins.take q).map insRes)).length]?) rfl ?_
    rw [e, List.getElem?_append_right (Nat.le_refl _)]; simp
  · show prmRow g :: blkRow g :: (g.blocks.flatMap blkRes).set _ _ = _
    have hc2 : (y.ins.set q { i with args := ls }).flatMap RIns.cells = y.ins.flatMap RIns.cells := flat_set_same (by simp [RIns.cells, h3]) hi
    have hcells : (g.blocks.set b { y with ins := y.ins.set q { i with args := ls } }).flatMap RBlk.cells = g.blocks.flatMap RBlk.cells := flat_set_same (by simp [RBlk.cells]) hb
    unfold funRes
    congr 1
    congr 1
    · unfold blkRow RFun.with
      simp only [hcells, List.length_set]
    · rw [e, List.set_append_right _ _ (Nat.le_refl _)]
      show _ = (g.blocks.set b { y with ins := y.ins.set q { i with args := ls } }).flatMap blkRes
      rw [set_split hb, List.flatMap_append, List.flatMap_cons]
      have hb2 : blkRes { y with ins := y.ins.set q { i with args := ls } } = insRow y :: ((y.ins.take q).map insRes ++ (row (.slice i.aA i.args.length i.aC) 3 1 i.args.length (ints ls) :: (y.ins.drop (q + 1)).map insRes)) := by
        unfold blkRes
        congr 1
        · unfold insRow
          simp only [List.length_set, hc2]
        · show (y.ins.set q { i with args := ls }).map insRes = _
          rw [set_split hi, List.map_append, List.map_cons]
          congr 2
          unfold insRes
          simp only [h3]
      rw [hb2]
      simp
/-- The row of blocks is written. -/
theorem own_blk {g : RFun} {b : Nat} {y y' : RBlk} (hb : g.blocks[b]? = some y) (hr : blkRes y' = blkRes y) : (funRes g).set 1 (row (.slice g.bA g.blocks.length g.bC) 50 5 g.blocks.length ((g.blocks.set b y').flatMap RBlk.cells)) = funRes (g.with (g.blocks.set b y')) := by
  have h2 : (g.blocks.set b y').flatMap blkRes = g.blocks.flatMap blkRes := flat_set_same hr hb
  unfold funRes
  show prmRow g :: _ :: g.blocks.flatMap blkRes = prmRow g :: blkRow (g.with (g.blocks.set b y')) :: (g.blocks.set b y').flatMap blkRes
  rw [h2]
  unfold blkRow RFun.with
  simp
/-- The k first ones have turned. -/
def turnTo {α : Type} (r : α → α) (l : List α) (k : Nat) : List α := (l.take k).map r ++ l.drop k
theorem turnTo_zero {α : Type} (r : α → α) (l : List α) : turnTo r l 0 = l := by simp [turnTo]
theorem turnTo_all {α : Type} (r : α → α) (l : List α) : turnTo r l l.length = l.map r := by simp [turnTo]
theorem turnTo_len {α : Type} (r : α → α) (l : List α) (k : Nat) : (turnTo r l k).length = l.length := by simp [turnTo]; omega
theorem turnTo_get {α : Type} {r : α → α} {l : List α} {k : Nat} {x : α} (h : l[k]? = some x) : (turnTo r l k)[k]? = some x := by
  have hk := (List.getElem?_eq_some_iff.1 h).1
  unfold turnTo
  have hl : ((l.take k).map r).length = k := by simp; omega
  rw [List.getElem?_append_right (by omega), hl, List.getElem?_drop]
  simpa using h
theorem turnTo_set {α : Type} {r : α → α} {l : List α} {k : Nat} {x : α} (h : l[k]? = some x) : (turnTo r l k).set k (r x) = turnTo r l (k + 1) := by
  have hk := (List.getElem?_eq_some_iff.1 h).1
  unfold turnTo
  have hl : ((l.take k).map r).length = k := by simp; omega
  rw [List.set_append_right _ _ (by omega), hl, Nat.sub_self, List.drop_eq_getElem_cons hk, List.set_cons_zero, take_snoc_ h, List.map_append]
  simp
section
theorem kit_CopyInts_ct {w : World} {A : Option Addr} {c : Nat} {l : List Int} (hl : Reads w w.heap.size 1 A l.length (ints l)) (hlen : l.length < 2 ^ 44) : Ct Try.prog 90 #[.slice A l.length c] w (NewL 3 1 l.length (ints l)) := by
  refine Ct.mk Try.func90 rfl rfl ?_
  refine Cd.nr 3 1 ?_
  refine Cd.seq ?_
  refine Cd.region ?_
  refine Ol.p ass ?_
  refine Ol.nil ?_
  refine Cd.seq ?_
  refine Cd.region ?_
  refine Ol.p ass ?_
  refine Ol.nil ?_
  refine Cd.seq ?_
  refine Cd.region ?_
  refine Ol.p mvs ?_
  refine Ol.p mvs ?_
  refine Ol.x (apn (i := 0) (n := 0) (xs := []) (m := l.length) sl_L_int zr_int rfl (by decide) rfl (Src.slc hl) (one_ints l) (by unfold maxLen; omega) (by omega)) ?_
  rintro _ _ ⟨A', c', rfl, rfl⟩
  refine Ol.p ass ?_
  refine Ol.nil ?_
  rw [Nat.zero_add, List.nil_append]
  exact Cd.ret ⟨_, ret1 rfl rfl, _, .all, A', c', rfl, rfl⟩
end
section
def RIns.at_ (i : RIns) (A : Option Addr) (c : Nat) : RIns := { i with aA := A, aC := c }
theorem RIns.at_bare (i : RIns) (A : Option Addr) (c : Nat) : (i.at_ A c).bare = i.bare := rfl
theorem kit_CopyIns_ct {w : World} {i : RIns} (hl : Reads w w.heap.size 1 i.aA i.args.length (ints i.args)) (hlen : i.args.length < 2 ^ 44) : Ct Try.prog 176 #[i.val] w (fun v R => ∃ A c, v = (i.at_ A c).val ∧ R = [insRes (i.at_ A c)]) := by
  refine Ct.mk Try.func176 rfl rfl ?_
  refine Cd.seq ?_
  refine Cd.region ?_
  refine Ol.x bxg ?_
  rintro _ _ ⟨g1, rfl, rfl⟩
  refine Ol.x (alc zr_api_Ins) ?_
  rintro _ _ ⟨g2, rfl, rfl⟩
  refine Ol.nil ?_
  refine Cd.seq ?_
  refine Cd.region ?_
  refine Ol.p (fdl fd_api_Ins_6) ?_
  refine Ol.p (ld (v := .slice i.aA i.args.length i.aC) one_L_int (Rd.blk (i := 1) rfl rfl)) ?_
  refine Ol.x (sp_call en_kit_CopyInts (fun M w' hh => kit_CopyInts_ct (l := i.args) (hl.now hh) hlen)) ?_
  rintro _ _ ⟨_, rfl, A', c', rfl, rfl⟩
  refine Ol.p (fdl fd_api_Ins_6) ?_
  refine Ol.s (sto (v := .slice A' i.args.length c') (i := 2) (k := 0 + 6) (.inr sz_L_int) rfl rfl rfl (by simp [RIns.cells]) rfl) ?_
  refine Ol.nil ?_
  refine Cd.seq ?_
  refine Cd.region ?_
  refine Ol.p (ldw (cs := (i.at_ A' c').cells.toArray) ag_api_Ins (i := 2) rfl rfl) ?_
  refine Ol.s (stw (vs := (i.at_ A' c').cells.toArray) sz_api_Ins rfl (i.at_ A' c').one (i := 1) rfl rfl) ?_
  refine Ol.nil ?_
  exact Cd.ret ⟨_, retc rfl ag_api_Ins rfl (i := 1) rfl rfl, _, .sub (.cons_cons _ (.cons _ (.cons _ .slnil))), A', c', rfl, rfl⟩
end
section
/-- A row of instructions, copied. -/
def NewIl (l : List RIns) : Value → List Res → Prop := fun v R => ∃ (l' : List RIns) (A : Option Addr) (c : Nat) (X : List Res), l'.map RIns.bare = l.map RIns.bare ∧ v = .slice A l'.length c ∧ X.Perm (l'.map insRes) ∧ R = row (.slice A l'.length c) 25 8 l'.length (l'.flatMap RIns.cells) :: X
set_option maxHeartbeats 2000000 in
theorem kit_CopyRow_ct {w : World} {A : Option Addr} {c : Nat} {l : List RIns} (hl : Reads w w.heap.size 8 A l.length (l.flatMap RIns.cells)) (ha : ∀ i ∈ l, Reads w w.heap.size 1 i.aA i.args.length (ints i.args)) (hlen : l.length < 2 ^ 36) (hal : ∀ i ∈ l, i.args.length < 2 ^ 44) : Ct Try.prog 170 #[.slice A l.length c] w (NewIl l) := by
  refine Ct.mk Try.func170 rfl rfl ?_
  refine Cd.nr 25 8 ?_
  refine Cd.seq ?_
  refine Cd.region ?_
  refine Ol.p ass ?_
  refine Ol.nil ?_
  refine Cd.seq ?_
  refine Cd.region ?_
  refine Ol.p ass ?_
  refine Ol.nil ?_
  refine Cd.seq ?_
  refine Cd.seq ?_
  refine Cd.region ?_
  refine Ol.p asi ?_
  refine Ol.nil ?_
  refine Cd.block ?_
  refine Cd.loop (fun m σ L => ∃ (k : Nat) (l' : List RIns) (A' : Option Addr) (c' : Nat) (X : List Res), m = l.length - k ∧ k ≤ l.length ∧ l'.map RIns.bare = (l.take k).map RIns.bare ∧ X.Perm (l'.map insRes) ∧ Has σ [(0, .slice A l.length c), (3, .slice A' l'.length c'), (4, .int .i64 k)] ∧ row (.slice A' l'.length c') 25 8 l'.length (l'.flatMap RIns.cells) :: X = L) (n := l.length) ⟨0, [], none, 0, [], rfl, Nat.zero_le _, rfl, .refl _, ⟨rfl, rfl, rfl, trivial⟩, rfl⟩ ?_
  rintro _ σ L ⟨k, l', A', c', X, rfl, hk, hbare, hX, hs, rfl⟩
  have hkl : l'.length = k := by
    have := congrArg List.length hbare
    simp at this; omega
  refine Cd.has hs ?_
  clear hs
  refine Cd.seq ?_
  refine Cd.seq ?_
  refine Cd.region ?_
  refine Ol.p mvi ?_
  refine Ol.p mvs ?_
  refine Ol.p (lens sl_L_api_Ins) ?_
  refine Ol.p lsi ?_
  refine Ol.nil ?_
  refine Cd.cond rfl (fun h => ?_) (fun h => ?_)
  · have hlt : k < l.length := by
      simp only [decide_eq_true_eq] at h; omega
    obtain ⟨i, hi⟩ : ∃ i, l[k]? = some i := ⟨_, List.getElem?_eq_getElem hlt⟩
    have him := List.mem_of_getElem? hi
    have hial := hal i him
    refine Cd.skip ?_
    refine Cd.seq ?_
    refine Cd.block ?_
    refine Cd.seq ?_
    refine Cd.region ?_
    refine Ol.p mvs ?_
    refine Ol.p mvi ?_
    refine Ol.p (ixn (ix := k) sl_L_api_Ins (Som.slc hl (by omega))) ?_
    refine Ol.p (lds (es := i.cells) ag_api_Ins hl i.len (fun j u hu => ins_cell hi hu)) ?_
    refine Ol.x (sp_call en_kit_CopyIns (fun M w' hh => kit_CopyIns_ct ((ha i him).now hh) hial)) ?_
    rintro _ _ ⟨_, rfl, Ai, ci, rfl, rfl⟩
    refine Ol.x (alc zr_api_Ins) ?_
    rintro _ _ ⟨g5, rfl, rfl⟩
    refine Ol.s (stw (vs := (i.at_ Ai ci).cells.toArray) sz_api_Ins rfl (i.at_ Ai ci).one (i := 0) rfl rfl) ?_
    refine Ol.nil ?_
    refine Cd.region ?_
    refine Ol.p mvs ?_
    refine Ol.p (ldw (cs := (i.at_ Ai ci).cells.toArray) ag_api_Ins (i := 0) rfl rfl) ?_
    refine Ol.x (bs1 (cs := (i.at_ Ai ci).cells) sl_L_api_Ins zr_api_Ins rfl rfl) ?_
    rintro _ _ ⟨g19, rfl, rfl⟩
    refine Ol.x (apn (i := 3) (m := 1) sl_L_api_Ins zr_api_Ins rfl (by decide) rfl (Src.row (i := 0) rfl rfl) (i.at_ Ai ci).one (by unfold maxLen; omega) (by omega)) ?_
    rintro _ _ ⟨A2, c2, rfl, rfl⟩
    refine Ol.p ass ?_
    refine Ol.keep (keep_count (L' := row (.slice A2 (l'.length + 1) c2) 25 8 (l'.length + 1) (l'.flatMap RIns.cells ++ (i.at_ Ai ci).cells) :: insRes (i.at_ Ai ci) :: X) [row (.slice (some ⟨g19, 0, none⟩) 1 1) 25 8 1 (i.at_ Ai ci).cells, blk g5 (.cells (i.at_ Ai ci).cells.toArray 25)] fun _ x => by simp only [List.set_cons_succ, List.set_cons_zero, List.count_append, List.count_cons, List.count_nil, List.cons_append, List.nil_append]; omega) ?_
    refine Ol.nil ?_
    refine Cd.region ?_
    refine Ol.p mvi ?_
    refine Ol.p addi ?_
    refine Ol.p asi ?_
    refine Ol.nil ?_
    have e1 : l'.length + 1 = (l' ++ [i.at_ Ai ci]).length := by simp
    have e2 : l'.flatMap RIns.cells ++ (i.at_ Ai ci).cells = (l' ++ [i.at_ Ai ci]).flatMap RIns.cells := by simp
    rw [e1, e2]
    refine ⟨l.length - (k + 1), by omega, k + 1, l' ++ [i.at_ Ai ci], A2, c2, insRes (i.at_ Ai ci) :: X, rfl, by omega, ?_, ?_, ⟨rfl, rfl, rfl, trivial⟩, rfl⟩
    · rw [take_snoc_ hi, List.map_append, List.map_append, hbare]; rfl
    · rw [List.map_append]
      exact ((hX.cons _).trans (List.perm_append_singleton _ _).symm)
  have hke : k = l.length := by
    simp only [decide_eq_false_iff_not] at h; omega
  refine Cd.exit (id := 0) ?_
  refine Cd.seq ?_
  refine Cd.region ?_
  refine Ol.p mvs ?_
  refine Ol.p ass ?_
  refine Ol.nil ?_
  exact Cd.ret ⟨_, ret1 rfl rfl, _, .all, l', A', c', X, by rw [hbare, hke, List.take_of_length_le (Nat.le_refl _)], rfl, hX, rfl⟩
end
section
def RBlk.at_ (b : RBlk) (A : Option Addr) (c : Nat) (l : List RIns) : RBlk := { b with iA := A, iC := c, ins := l }
theorem RBlk.at_bare {b : RBlk} {A : Option Addr} {c : Nat} {l : List RIns} (h : l.map RIns.bare = b.ins.map RIns.bare) : (b.at_ A c l).bare = b.bare := by
  unfold RBlk.bare RBlk.at_
  simp only [h]
theorem kit_CopyBlock_ct {w : World} {b : RBlk} (hl : Reads w w.heap.size 8 b.iA b.ins.length (b.ins.flatMap RIns.cells)) (ha : ∀ i ∈ b.ins, Reads w w.heap.size 1 i.aA i.args.length (ints i.args)) (hlen : b.ins.length < 2 ^ 36) (hal : ∀ i ∈ b.ins, i.args.length < 2 ^ 44) : Ct Try.prog 140 #[b.val] w (fun v R => ∃ b' : RBlk, b'.bare = b.bare ∧ v = b'.val ∧ R.Perm (blkRes b')) := by
  refine Ct.mk Try.func140 rfl rfl ?_
  refine Cd.seq ?_
  refine Cd.region ?_
  refine Ol.x bxg ?_
  rintro _ _ ⟨g1, rfl, rfl⟩
  refine Ol.x (alc zr_api_Block) ?_
  rintro _ _ ⟨g2, rfl, rfl⟩
  refine Ol.nil ?_
  refine Cd.seq ?_
  refine Cd.region ?_
  refine Ol.p (fdl fd_api_Block_0) ?_
  refine Ol.p (ld (v := .slice b.iA b.ins.length b.iC) one_L_api_Ins (Rd.blk (i := 1) rfl rfl)) ?_
  refine Ol.x (sp_call en_kit_CopyRow (fun M w' hh => kit_CopyRow_ct (l := b.ins) (hl.now hh) (fun i hi => (ha i hi).now hh) hlen hal)) ?_
  rintro _ _ ⟨_, rfl, l', A', c', X, hb, rfl, hX, rfl⟩
  refine Ol.keep Keep.comm ?_
  refine Ol.p (fdl fd_api_Block_0) ?_
  refine Ol.s (sto (v := .slice A' l'.length c') (i := 1) (k := 0 + 0) (.inr sz_L_api_Ins) rfl rfl rfl (by simp [RBlk.cells]) rfl) ?_
  refine Ol.nil ?_
  refine Cd.seq ?_
  refine Cd.region ?_
  refine Ol.p (ldw (cs := (b.at_ A' c' l').cells.toArray) ag_api_Block (i := 1) rfl rfl) ?_
  refine Ol.s (stw (vs := (b.at_ A' c' l').cells.toArray) sz_api_Block rfl (b.at_ A' c' l').one (i := 0) rfl rfl) ?_
  refine Ol.nil ?_
  exact Cd.ret ⟨_, retc rfl ag_api_Block rfl (i := 0) rfl rfl, _, .sub (.cons _ (.cons _ (List.Sublist.refl _))), b.at_ A' c' l', RBlk.at_bare hb, rfl, hX.cons _⟩
end
section
def NewBl (l : List RBlk) : Value → List Res → Prop := fun v R => ∃ (l' : List RBlk) (A : Option Addr) (c : Nat) (X : List Res), l'.map RBlk.bare = l.map RBlk.bare ∧ v = .slice A l'.length c ∧ X.Perm (l'.flatMap blkRes) ∧ R = row (.slice A l'.length c) 50 5 l'.length (l'.flatMap RBlk.cells) :: X
/-- A list of blocks that can be read from outside. -/
structure BlksIn (w : World) (B : Nat) (A : Option Addr) (l : List RBlk) : Prop where
  row : Reads w B 5 A l.length (l.flatMap RBlk.cells)
  ins : ∀ b ∈ l, Reads w B 8 b.iA b.ins.length (b.ins.flatMap RIns.cells)
  args : ∀ b ∈ l, ∀ i ∈ b.ins, Reads w B 1 i.aA i.args.length (ints i.args)
  len : l.length < 2 ^ 36
  ilen : ∀ b ∈ l, b.ins.length < 2 ^ 36
  alen : ∀ b ∈ l, ∀ i ∈ b.ins, i.args.length < 2 ^ 44
theorem BlksIn.now {w0 w : World} {B : Nat} {A : Option Addr} {l : List RBlk} {L : List Res} (h : BlksIn w0 B A l) (hh : Hp w0 B L w) : BlksIn w w.heap.size A l :=
  ⟨h.row.now hh, fun b hb => (h.ins b hb).now hh, fun b hb i hi => (h.args b hb i hi).now hh, h.len, h.ilen, h.alen⟩
set_option maxHeartbeats 2000000 in
theorem kit_CopyBlocks_ct {w : World} {A : Option Addr} {c : Nat} {l : List RBlk} (hl : BlksIn w w.heap.size A l) : Ct Try.prog 91 #[.slice A l.length c] w (NewBl l) := by
  have hlen := hl.len
  refine Ct.mk Try.func91 rfl rfl ?_
  refine Cd.nr 50 5 ?_
  refine Cd.seq ?_
  refine Cd.region ?_
  refine Ol.p ass ?_
  refine Ol.nil ?_
  refine Cd.seq ?_
  refine Cd.region ?_
  refine Ol.p ass ?_
  refine Ol.nil ?_
  refine Cd.seq ?_
  refine Cd.seq ?_
  refine Cd.region ?_
  refine Ol.p asi ?_
  refine Ol.nil ?_
  refine Cd.block ?_
  refine Cd.loop (fun m σ L => ∃ (k : Nat) (l' : List RBlk) (A' : Option Addr) (c' : Nat) (X : List Res), m = l.length - k ∧ k ≤ l.length ∧ l'.map RBlk.bare = (l.take k).map RBlk.bare ∧ X.Perm (l'.flatMap blkRes) ∧ Has σ [(0, .slice A l.length c), (3, .slice A' l'.length c'), (4, .int .i64 k)] ∧ row (.slice A' l'.length c') 50 5 l'.length (l'.flatMap RBlk.cells) :: X = L) (n := l.length) ⟨0, [], none, 0, [], rfl, Nat.zero_le _, rfl, .refl _, ⟨rfl, rfl, rfl, trivial⟩, rfl⟩ ?_
  rintro _ σ L ⟨k, l', A', c', X, rfl, hk, hbare, hX, hs, rfl⟩
  have hkl : l'.length = k := by
    have := congrArg List.length hbare
    simp at this; omega
  refine Cd.has hs ?_
  clear hs
  refine Cd.seq ?_
  refine Cd.seq ?_
  refine Cd.region ?_
  refine Ol.p mvi ?_
  refine Ol.p mvs ?_
  refine Ol.p (lens sl_L_api_Block) ?_
  refine Ol.p lsi ?_
  refine Ol.nil ?_
  refine Cd.cond rfl (fun h => ?_) (fun h => ?_)
  · have hlt : k < l.length := by
      simp only [decide_eq_true_eq] at h; omega
    obtain ⟨b, hb⟩ : ∃ b, l[k]? = some b := ⟨_, List.getElem?_eq_getElem hlt⟩
    have hbm := List.mem_of_getElem? hb
    refine Cd.skip ?_
    refine Cd.seq ?_
    refine Cd.block ?_
    refine Cd.seq ?_
    refine Cd.region ?_
    refine Ol.p mvs ?_
    refine Ol.p mvi ?_
    refine Ol.p (ixn (ix := k) sl_L_api_Block (Som.slc hl.row (by omega))) ?_
    refine Ol.p (lds (es := b.cells) ag_api_Block hl.row b.len (fun j u hu => blk_cell hb hu)) ?_
    refine Ol.x (sp_call en_kit_CopyBlock (fun M w' hh => kit_CopyBlock_ct (b := b) ((hl.ins b hbm).now hh) (fun i hi => (hl.args b hbm i hi).now hh) (hl.ilen b hbm) (hl.alen b hbm))) ?_
    rintro _ _ ⟨Y, rfl, b', hb', rfl, hY⟩
    refine Ol.keep (L' := [row (.slice A' l'.length c') 50 5 l'.length (l'.flatMap RBlk.cells)] ++ (X ++ blkRes b')) ⟨[], perm_count fun _ x => by
      have := hY.count_eq x
      simp only [List.count_append, List.count_cons, List.cons_append, List.nil_append, List.append_nil]; omega⟩ ?_
    refine Ol.x (alc zr_api_Block) ?_
    rintro _ _ ⟨g5, rfl, rfl⟩
    refine Ol.s (stw (vs := b'.cells.toArray) sz_api_Block rfl b'.one (i := 0) rfl rfl) ?_
    refine Ol.nil ?_
    refine Cd.region ?_
    refine Ol.p mvs ?_
    refine Ol.p (ldw (cs := b'.cells.toArray) ag_api_Block (i := 0) rfl rfl) ?_
    refine Ol.x (bs1 (cs := b'.cells) sl_L_api_Block zr_api_Block rfl rfl) ?_
    rintro _ _ ⟨g19, rfl, rfl⟩
    refine Ol.x (apn (i := 2) (m := 1) sl_L_api_Block zr_api_Block rfl (by decide) rfl (Src.row (i := 0) rfl rfl) b'.one (by unfold maxLen; omega) (by omega)) ?_
    rintro _ _ ⟨A2, c2, rfl, rfl⟩
    refine Ol.p ass ?_
    refine Ol.keep (.sub (.cons _ (.cons _ (List.Sublist.refl _)))) ?_
    refine Ol.nil ?_
    refine Cd.region ?_
    refine Ol.p mvi ?_
    refine Ol.p addi ?_
    refine Ol.p asi ?_
    refine Ol.nil ?_
    have e1 : l'.length + 1 = (l' ++ [b']).length := by simp
    have e2 : l'.flatMap RBlk.cells ++ b'.cells = (l' ++ [b']).flatMap RBlk.cells := by simp
    rw [e1, e2]
    refine ⟨l.length - (k + 1), by omega, k + 1, l' ++ [b'], A2, c2, X ++ blkRes b', rfl, by omega, ?_, ?_, ⟨rfl, rfl, rfl, trivial⟩, rfl⟩
    · rw [take_snoc_ hb, List.map_append, List.map_append, hbare]; simp [hb']
    · rw [List.flatMap_append]
      refine List.Perm.append hX ?_
      simp
  have hke : k = l.length := by
    simp only [decide_eq_false_iff_not] at h; omega
  refine Cd.exit (id := 0) ?_
  refine Cd.seq ?_
  refine Cd.region ?_
  refine Ol.p mvs ?_
  refine Ol.p ass ?_
  refine Ol.nil ?_
  exact Cd.ret ⟨_, ret1 rfl rfl, _, .all, l', A', c', X, by rw [hbare, hke, List.take_of_length_le (Nat.le_refl _)], rfl, hX, rfl⟩
end
section
theorem kit_CopyFunc_ct {w : World} {f : RFun} (hf : FunAt w w.heap.size f) (hp : f.params.length < 2 ^ 44) (hl : BlksIn w w.heap.size f.bA f.blocks) : Ct Try.prog 41 #[f.val] w (fun v R => ∃ g : RFun, g.bare = f.bare ∧ v = g.val ∧ R.Perm (funRes g)) := by
  refine Ct.mk Try.func41 rfl rfl ?_
  refine Cd.seq ?_
  refine Cd.region ?_
  refine Ol.x bxg ?_
  rintro _ _ ⟨g1, rfl, rfl⟩
  refine Ol.x (alc zr_api_Func) ?_
  rintro _ _ ⟨g2, rfl, rfl⟩
  refine Ol.nil ?_
  refine Cd.seq ?_
  refine Cd.region ?_
  refine Ol.p (fdl fd_api_Func_0) ?_
  refine Ol.p (ld (v := .slice f.pA f.params.length f.pC) one_L_int (Rd.blk (i := 1) rfl rfl)) ?_
  refine Ol.x (sp_call en_kit_CopyInts (fun M w' hh => kit_CopyInts_ct (l := f.params) (hf.params.now hh) hp)) ?_
  rintro _ _ ⟨_, rfl, A', c', rfl, rfl⟩
  refine Ol.p (fdl fd_api_Func_0) ?_
  refine Ol.s (sto (v := .slice A' f.params.length c') (i := 2) (k := 0 + 0) (.inr sz_L_int) rfl rfl rfl (by simp [RFun.cells]) rfl) ?_
  refine Ol.nil ?_
  refine Cd.seq ?_
  refine Cd.region ?_
  refine Ol.p (fdl fd_api_Func_1) ?_
  refine Ol.p (ld (v := .slice f.bA f.blocks.length f.bC) one_L_api_Block (Rd.blk (i := 2) rfl rfl)) ?_
  refine Ol.x (sp_call en_kit_CopyBlocks (fun M w' hh => kit_CopyBlocks_ct (l := f.blocks) (hl.now hh))) ?_
  rintro _ _ ⟨_, rfl, l', A2, c2, X, hb, rfl, hX, rfl⟩
  refine Ol.keep Keep.comm ?_
  obtain ⟨g, hg⟩ : ∃ g : RFun, g = ⟨A', c', f.params, A2, c2, l'⟩ := ⟨_, rfl⟩
  refine Ol.p (fdl fd_api_Func_1) ?_
  refine Ol.s (sto (v := .slice A2 l'.length c2) (i := 2) (k := 0 + 1) (.inr sz_L_api_Block) rfl rfl rfl (by simp [RFun.cells]) rfl) ?_
  refine Ol.nil ?_
  refine Cd.seq ?_
  refine Cd.region ?_
  refine Ol.p (ldw (cs := #[.slice A' f.params.length c', .slice A2 l'.length c2]) ag_api_Func (i := 2) rfl rfl) ?_
  refine Ol.s (stw (vs := #[.slice A' f.params.length c', .slice A2 l'.length c2]) sz_api_Func rfl (by intro u hu; simp at hu; rcases hu with rfl | rfl <;> rfl) (i := 1) rfl rfl) ?_
  refine Ol.nil ?_
  refine Cd.ret ⟨_, retc rfl ag_api_Func rfl (i := 1) rfl rfl, _, .sub (.cons_cons _ (.cons _ (.cons _ (List.Sublist.refl _)))), g, ?_, by rw [hg]; rfl, ?_⟩
  · rw [hg]
    unfold RFun.bare
    simp only [hb]
  · rw [hg]
    exact (hX.cons _).cons _
end
end Go.Proofs.Ytcojedoejpcolaa

/- The package run: a function is copied, walked. -/
namespace Go.Proofs.Ytcojedoejpcolaa
set_option linter.unusedVariables false
open Go Go.RowKit
set_option maxRecDepth 100000

theorem get_next {α : Type} {l l' : List α} {q : Nat} {x : α} (hq : l'.length = q) (hx : l[q]? = some x) : (l' ++ l.drop q)[q]? = some x := by
  rw [List.getElem?_append_right (by omega), hq, Nat.sub_self, List.getElem?_drop]
  simpa using hx
theorem put_next {α : Type} {l l' : List α} {q : Nat} {x x' : α} (hq : l'.length = q) (hx : l[q]? = some x) : (l' ++ l.drop q).set q x' = (l' ++ [x']) ++ l.drop (q + 1) := by
  obtain ⟨hlt, hv⟩ := List.getElem?_eq_some_iff.1 hx
  rw [List.drop_eq_getElem_cons hlt, List.set_append_right _ _ (by omega), hq, Nat.sub_self, List.set_cons_zero]
  simp
section
theorem slices_Clone_L_api_Ins_ct {w : World} {A : Option Addr} {c n : Nat} {xs : List Value} (hl : Reads w w.heap.size 8 A n xs) (h1 : ∀ u ∈ xs, u.oneCell' = true) (hb : n < 2 ^ 36) : Ct Try.prog 142 #[.slice A n c] w (NewL 25 8 n xs) := by
  refine Ct.mk Try.func142 rfl rfl ?_
  refine Cd.seq ?_
  refine Cd.region ?_
  refine Ol.p ass ?_
  refine Ol.nil ?_
  refine Cd.seq ?_
  refine Cd.seq ?_
  refine Cd.region ?_
  refine Ol.p mvs ?_
  refine Ol.p (esn sl_L_api_Ins) ?_
  refine Ol.nil ?_
  refine Cd.cond rfl (fun h => ?_) (fun h => ?_)
  · refine Cd.seq ?_
    refine Cd.region ?_
    refine Ol.p ass ?_
    refine Ol.nil ?_
    refine Cd.nr 25 8 ?_
    have h0 : n = 0 := by
      rcases Nat.eq_zero_or_pos n with h0 | h0
      · exact h0
      · obtain ⟨a, rfl, _⟩ := hl.2 h0; cases h
    subst h0
    have hx : xs = [] := List.eq_nil_of_length_eq_zero (by simpa using hl.1)
    subst hx
    refine Cd.ret ⟨.slice none 0 0, ret1 rfl rfl, _, .all, none, 0, rfl, rfl⟩
  · refine Cd.skip ?_
    refine Cd.seq ?_
    refine Cd.region ?_
    refine Ol.x (bsn [] sl_L_api_Ins zr_api_Ins (by simp) rfl (by omega) (by simp [maxLen])) ?_
    rintro _ _ ⟨g5, rfl, rfl⟩
    refine Ol.p mvs ?_
    refine Ol.x (apn (i := 0) (n := 0) (xs := []) sl_L_api_Ins zr_api_Ins rfl (by decide) rfl (Src.slc hl) h1 (by unfold maxLen; omega) (by omega)) ?_
    rintro _ _ ⟨A', c', rfl, rfl⟩
    refine Ol.p ass ?_
    refine Ol.nil ?_
    rw [Nat.zero_add]
    refine Cd.ret ⟨.slice A' n c', ret1 rfl rfl, _, .all, A', c', rfl, rfl⟩
end
section
theorem slices_Clone_L_api_Block_ct {w : World} {A : Option Addr} {c n : Nat} {xs : List Value} (hl : Reads w w.heap.size 5 A n xs) (h1 : ∀ u ∈ xs, u.oneCell' = true) (hb : n < 2 ^ 36) : Ct Try.prog 141 #[.slice A n c] w (NewL 50 5 n xs) := by
  refine Ct.mk Try.func141 rfl rfl ?_
  refine Cd.seq ?_
  refine Cd.region ?_
  refine Ol.p ass ?_
  refine Ol.nil ?_
  refine Cd.seq ?_
  refine Cd.seq ?_
  refine Cd.region ?_
  refine Ol.p mvs ?_
  refine Ol.p (esn sl_L_api_Block) ?_
  refine Ol.nil ?_
  refine Cd.cond rfl (fun h => ?_) (fun h => ?_)
  · refine Cd.seq ?_
    refine Cd.region ?_
    refine Ol.p ass ?_
    refine Ol.nil ?_
    refine Cd.nr 50 5 ?_
    have h0 : n = 0 := by
      rcases Nat.eq_zero_or_pos n with h0 | h0
      · exact h0
      · obtain ⟨a, rfl, _⟩ := hl.2 h0; cases h
    subst h0
    have hx : xs = [] := List.eq_nil_of_length_eq_zero (by simpa using hl.1)
    subst hx
    refine Cd.ret ⟨.slice none 0 0, ret1 rfl rfl, _, .all, none, 0, rfl, rfl⟩
  · refine Cd.skip ?_
    refine Cd.seq ?_
    refine Cd.region ?_
    refine Ol.x (bsn [] sl_L_api_Block zr_api_Block (by simp) rfl (by omega) (by simp [maxLen])) ?_
    rintro _ _ ⟨g5, rfl, rfl⟩
    refine Ol.p mvs ?_
    refine Ol.x (apn (i := 0) (n := 0) (xs := []) sl_L_api_Block zr_api_Block rfl (by decide) rfl (Src.slc hl) h1 (by unfold maxLen; omega) (by omega)) ?_
    rintro _ _ ⟨A', c', rfl, rfl⟩
    refine Ol.p ass ?_
    refine Ol.nil ?_
    rw [Nat.zero_add]
    refine Cd.ret ⟨.slice A' n c', ret1 rfl rfl, _, .all, A', c', rfl, rfl⟩
end
section
set_option maxHeartbeats 4000000 in
theorem run_copied_ct {w : World} {f : RFun} (hf : FunAt w w.heap.size f) (hp : f.params.length < 2 ^ 43) (hl : BlksIn w w.heap.size f.bA f.blocks) (hal : ∀ b ∈ f.blocks, ∀ i ∈ b.ins, i.args.length < 2 ^ 43) : Ct Try.prog 94 #[f.val] w (fun v R => ∃ g : RFun, g.bare = f.bare ∧ v = g.val ∧ R.Perm (funRes g)) := by
  have hlen := hl.len
  refine Ct.mk Try.func94 rfl rfl ?_
  refine Cd.seq ?_
  refine Cd.region ?_
  refine Ol.x bxg ?_
  rintro _ _ ⟨g1, rfl, rfl⟩
  refine Ol.x (alc zr_api_Func) ?_
  rintro _ _ ⟨g2, rfl, rfl⟩
  refine Ol.nil ?_
  refine Cd.seq ?_
  refine Cd.draw mixed 7 (fun opNo => match opNo with | 2 => some (NewL 3 1 f.params.length (ints f.params)) | 5 => some (NewL 50 5 f.blocks.length (f.blocks.flatMap RBlk.cells)) | _ => none) (fun _ => []) (by kernel_rfl) (by intro q V h; split at h <;> cases h; exact ⟨_, _, none, 0, rfl, rfl⟩; exact ⟨_, _, none, 0, rfl, rfl⟩) (fun u hu => ?_)
  refine Wk.p (fdl fd_api_Func_0) ?_
  refine Wk.p (ld (v := .slice f.pA f.params.length f.pC) one_L_int (Rd.blk (i := 1) rfl rfl)) ?_
  refine Wk.x (V := NewL 3 1 f.params.length (ints f.params)) hu (sp_call en_slices_Clone_L_int_int (fun M w' hh => slices_Clone_L_int_int_ct (hf.params.now hh) (ints_one _) hp)) ?_
  rintro _ _ hu2 ⟨A8, c8, rfl, rfl⟩
  refine Wk.p (fdl fd_api_Func_1) ?_
  refine Wk.p (ld (v := .slice f.bA f.blocks.length f.bC) one_L_api_Block (Rd.blk (i := 1) rfl rfl)) ?_
  refine Wk.x (V := NewL 50 5 f.blocks.length (f.blocks.flatMap RBlk.cells)) hu (sp_call en_slices_Clone_L_api_Block_api_Block (fun M w' hh => slices_Clone_L_api_Block_ct (hl.row.now hh) (one_flatB _) hlen)) ?_
  rintro _ _ hu5 ⟨A11, c11, rfl, rfl⟩
  refine Wk.p (fdl fd_api_Func_0) ?_
  refine Wk.nil ?_
  rw [needs_cons hu5, needs_cons hu2, needs_none]
  refine Ol.s (sto (v := .slice A8 f.params.length c8) (i := 3) (k := 0 + 0) (.inr sz_L_int) rfl rfl rfl (by simp [RFun.cells]) rfl) ?_
  refine Ol.p (fdl fd_api_Func_1) ?_
  refine Ol.s (sto (v := .slice A11 f.blocks.length c11) (i := 3) (k := 0 + 1) (.inr sz_L_api_Block) rfl rfl rfl (by simp [RFun.cells]) rfl) ?_
  refine Ol.nil ?_
  obtain ⟨rowP, hrP⟩ : ∃ r, r = row (.slice A8 f.params.length c8) 3 1 f.params.length (ints f.params) := ⟨_, rfl⟩
  rw [← hrP]
  refine Cd.seq ?_
  refine Cd.seq ?_
  refine Cd.region ?_
  refine Ol.p (fdl fd_api_Func_1) ?_
  refine Ol.p (ld (v := .slice A11 f.blocks.length c11) one_L_api_Block (Rd.blk (i := 3) rfl rfl)) ?_
  refine Ol.p (lens sl_L_api_Block) ?_
  refine Ol.p mvi ?_
  refine Ol.nil ?_
  refine Cd.block ?_   -- 0
  refine Cd.loop (fun m σ L => ∃ (k : Nat) (l' : List RBlk) (X : List Res), m = f.blocks.length - k ∧ k ≤ f.blocks.length ∧ l'.map RBlk.bare = (f.blocks.take k).map RBlk.bare ∧ X.Perm (l'.flatMap blkRes) ∧ Has σ [(1, .pointer (some ⟨g1, 0, none⟩)), (2, .pointer (some ⟨g2, 0, none⟩)), (16, .int .i64 f.blocks.length), (17, .int .i64 k)] ∧ row (.slice A11 f.blocks.length c11) 50 5 f.blocks.length ((l' ++ f.blocks.drop k).flatMap RBlk.cells) :: rowP :: blk g2 (.cells #[.slice none 0 0, .slice none 0 0] 43) :: blk g1 (.cells #[.slice A8 f.params.length c8, .slice A11 f.blocks.length c11] 43) :: X = L) (n := f.blocks.length) ⟨0, [], [], rfl, Nat.zero_le _, rfl, .refl _, ⟨rfl, rfl, rfl, rfl, trivial⟩, rfl⟩ ?_
  rintro _ σ L ⟨k, l', X, rfl, hk, hbare, hX, hs, rfl⟩
  have hkl : l'.length = k := by
    have := congrArg List.length hbare
    simp at this; omega
  refine Cd.has hs ?_
  clear hs
  refine Cd.seq ?_
  refine Cd.region ?_
  refine Ol.p lsi ?_
  refine Ol.nil ?_
  refine Cd.seq ?_
  refine Cd.cond rfl (fun h => ?_) (fun h => ?_)   -- $18
  · have hlt : k < f.blocks.length := by
      simp only [decide_eq_true_eq] at h; omega
    obtain ⟨b, hb⟩ : ∃ b, f.blocks[k]? = some b := ⟨_, List.getElem?_eq_getElem hlt⟩
    have hbm := List.mem_of_getElem? hb
    have hil := hl.ilen b hbm
    refine Cd.skip ?_
    refine Cd.seq ?_
    refine Cd.block ?_   -- 1
    refine Cd.seq ?_
    refine Cd.region ?_
    refine Ol.p mvi ?_
    refine Ol.p asi ?_
    refine Ol.nil ?_
    refine Cd.seq ?_
    refine Cd.region ?_
    refine Ol.p (fdl fd_api_Func_1) ?_
    refine Ol.p (ld (v := .slice A11 f.blocks.length c11) one_L_api_Block (Rd.blk (i := 3) rfl rfl)) ?_
    refine Ol.p mvi ?_
    refine Ol.p (ixn (ix := k) sl_L_api_Block (Som.row (i := 0) rfl (by omega))) ?_
    refine Ol.p (fdp fd_api_Block_0) ?_
    refine Ol.p (ld (v := .slice b.iA b.ins.length b.iC) one_L_api_Ins (Rd.row (i := 0) rfl (blk_cell (j := 0) (get_next hkl hb) rfl))) ?_
    refine Ol.x (sp_call en_slices_Clone_L_api_Ins_api_Ins (fun M w' hh => slices_Clone_L_api_Ins_ct ((hl.ins b hbm).now hh) (one_flatI _) hil)) ?_
    rintro _ _ ⟨_, rfl, A26, c26, rfl, rfl⟩
    refine Ol.p ass ?_
    refine Ol.nil ?_
    refine Cd.seq ?_
    refine Cd.seq ?_
    refine Cd.region ?_
    refine Ol.p mvs ?_
    refine Ol.p (lens sl_L_api_Ins) ?_
    refine Ol.p mvi ?_
    refine Ol.nil ?_
    refine Cd.block ?_   -- 2
    refine Cd.loop (fun m σ L => ∃ (q : Nat) (il : List RIns) (X2 : List Res), m = b.ins.length - q ∧ q ≤ b.ins.length ∧ il.map RIns.bare = (b.ins.take q).map RIns.bare ∧ X2.Perm (il.map insRes ++ l'.flatMap blkRes) ∧ Has σ [(1, .pointer (some ⟨g1, 0, none⟩)), (2, .pointer (some ⟨g2, 0, none⟩)), (3, .int .i64 k), (4, .slice A26 b.ins.length c26), (16, .int .i64 f.blocks.length), (17, .int .i64 k), (28, .int .i64 b.ins.length), (29, .int .i64 q)] ∧ row (.slice A26 b.ins.length c26) 25 8 b.ins.length ((il ++ b.ins.drop q).flatMap RIns.cells) :: row (.slice A11 f.blocks.length c11) 50 5 f.blocks.length ((l' ++ f.blocks.drop k).flatMap RBlk.cells) :: rowP :: blk g2 (.cells #[.slice none 0 0, .slice none 0 0] 43) :: blk g1 (.cells #[.slice A8 f.params.length c8, .slice A11 f.blocks.length c11] 43) :: X2 = L) (n := b.ins.length) ⟨0, [], X, rfl, Nat.zero_le _, rfl, hX, ⟨rfl, rfl, rfl, rfl, rfl, rfl, rfl, rfl, trivial⟩, rfl⟩ ?_
    rintro _ σ L ⟨q, il, X2, rfl, hq, hib, hX2, hs, rfl⟩
    have hql : il.length = q := by
      have := congrArg List.length hib
      simp at this; omega
    refine Cd.has hs ?_
    clear hs
    refine Cd.seq ?_
    refine Cd.region ?_
    refine Ol.p lsi ?_
    refine Ol.nil ?_
    refine Cd.seq ?_
    refine Cd.cond rfl (fun h => ?_) (fun h => ?_)   -- $30
    · have hqt : q < b.ins.length := by
        simp only [decide_eq_true_eq] at h; omega
      obtain ⟨i, hi⟩ : ∃ i, b.ins[q]? = some i := ⟨_, List.getElem?_eq_getElem hqt⟩
      have him := List.mem_of_getElem? hi
      have hial := hal b hbm i him
      have e : ∀ (A : Option Addr) (c : Nat), ((il ++ b.ins.drop q).flatMap RIns.cells).set (q * 8 + 6) (.slice A i.args.length c) = (il ++ [i.at_ A c] ++ b.ins.drop (q + 1)).flatMap RIns.cells := fun A c => by
        rw [flat_set_at (F := RIns.cells) RIns.len (by decide) (x := i) (x' := i.at_ A c) rfl (get_next hql hi), put_next hql hi]
      refine Cd.skip ?_
      refine Cd.seq ?_
      refine Cd.block ?_   -- 3
      refine Cd.seq ?_
      refine Cd.region ?_
      refine Ol.p mvi ?_
      refine Ol.p asi ?_
      refine Ol.nil ?_
      refine Cd.region ?_
      refine Ol.p mvs ?_
      refine Ol.p mvi ?_
      refine Ol.p mvs ?_
      refine Ol.p mvi ?_
      refine Ol.p (ixn (ix := q) sl_L_api_Ins (Som.row (i := 0) rfl (by omega))) ?_
      refine Ol.p (fdp fd_api_Ins_6) ?_
      refine Ol.p (ld (v := .slice i.aA i.args.length i.aC) one_L_int (Rd.row (i := 0) rfl (ins_cell (j := 6) (get_next hql hi) rfl))) ?_
      refine Ol.x (sp_call en_slices_Clone_L_int_int (fun M w' hh => slices_Clone_L_int_int_ct (xs := ints i.args) ((hl.args b hbm i him).now hh) (ints_one _) hial)) ?_
      rintro _ _ ⟨_, rfl, A39, c39, rfl, rfl⟩
      refine Ol.p (ixn (ix := q) sl_L_api_Ins (Som.row (i := 1) rfl (by omega))) ?_
      refine Ol.p (fdp fd_api_Ins_6) ?_
      refine Ol.s (str (v := .slice A39 i.args.length c39) (i := 1) (k := q * 8 + 6) (A := A26) (xs := (il ++ b.ins.drop q).flatMap RIns.cells) sz_L_int rfl rfl rfl (List.getElem?_eq_some_iff.1 (ins_cell (j := 6) (get_next hql hi) rfl)).1 rfl) ?_
      refine Ol.keep (keep_count (L' := row (.slice A26 b.ins.length c26) 25 8 b.ins.length ((il ++ [i.at_ A39 c39] ++ b.ins.drop (q + 1)).flatMap RIns.cells) :: row (.slice A11 f.blocks.length c11) 50 5 f.blocks.length ((l' ++ f.blocks.drop k).flatMap RBlk.cells) :: rowP :: blk g2 (.cells #[.slice none 0 0, .slice none 0 0] 43) :: blk g1 (.cells #[.slice A8 f.params.length c8, .slice A11 f.blocks.length c11] 43) :: insRes (i.at_ A39 c39) :: X2) [] fun _ x => by rw [e, show insRes (i.at_ A39 c39) = row (.slice A39 i.args.length c39) 3 1 i.args.length (ints i.args) from rfl]; simp only [List.cons_append, List.nil_append, List.set_cons_succ, List.set_cons_zero, List.count_cons, List.append_nil]; omega) ?_
      refine Ol.nil ?_
      refine Cd.region ?_
      refine Ol.p addi ?_
      refine Ol.p mvi ?_
      refine Ol.nil ?_
      refine ⟨b.ins.length - (q + 1), by omega, q + 1, il ++ [i.at_ A39 c39], insRes (i.at_ A39 c39) :: X2, rfl, by omega, ?_, ?_, ⟨rfl, rfl, rfl, rfl, rfl, rfl, rfl, rfl, trivial⟩, rfl⟩
      · rw [take_snoc_ hi, List.map_append, List.map_append, hib]; rfl
      · rw [List.map_append, List.append_assoc]
        exact (hX2.cons _).trans List.perm_middle.symm
    have hqe : q = b.ins.length := by
      simp only [decide_eq_false_iff_not] at h; omega
    have hil' : il.length = b.ins.length := by omega
    have hdr : il ++ b.ins.drop q = il := by rw [List.drop_eq_nil_of_le (by omega), List.append_nil]
    have hib2 : il.map RIns.bare = b.ins.map RIns.bare := by rw [hib, hqe, List.take_of_length_le (Nat.le_refl _)]
    have e : ((l' ++ f.blocks.drop k).flatMap RBlk.cells).set (k * 5 + 0) (.slice A26 b.ins.length c26) = (l' ++ [b.at_ A26 c26 il] ++ f.blocks.drop (k + 1)).flatMap RBlk.cells := by
      rw [flat_set_at (F := RBlk.cells) RBlk.len (by decide) (x := b) (x' := b.at_ A26 c26 il) (by unfold RBlk.at_ RBlk.cells; simp only [hil']; rfl) (get_next hkl hb), put_next hkl hb]
    have e2 : insRow (b.at_ A26 c26 il) = row (.slice A26 b.ins.length c26) 25 8 b.ins.length (il.flatMap RIns.cells) := by
      unfold insRow RBlk.at_; simp only [hil']
    refine Cd.exit (id := 2) ?_
    refine Cd.region ?_
    refine Ol.p (fdl fd_api_Func_1) ?_
    refine Ol.p (ld (v := .slice A11 f.blocks.length c11) one_L_api_Block (Rd.blk (i := 4) rfl rfl)) ?_
    refine Ol.p mvi ?_
    refine Ol.p mvs ?_
    refine Ol.p (ixn (ix := k) sl_L_api_Block (Som.row (i := 1) rfl (by omega))) ?_
    refine Ol.p (fdp fd_api_Block_0) ?_
    refine Ol.s (str (v := .slice A26 b.ins.length c26) (i := 1) (k := k * 5 + 0) (A := A11) (xs := (l' ++ f.blocks.drop k).flatMap RBlk.cells) sz_L_api_Ins rfl rfl rfl (List.getElem?_eq_some_iff.1 (blk_cell (j := 0) (get_next hkl hb) rfl)).1 rfl) ?_
    refine Ol.keep (keep_count (L' := row (.slice A11 f.blocks.length c11) 50 5 f.blocks.length ((l' ++ [b.at_ A26 c26 il] ++ f.blocks.drop (k + 1)).flatMap RBlk.cells) :: rowP :: blk g2 (.cells #[.slice none 0 0, .slice none 0 0] 43) :: blk g1 (.cells #[.slice A8 f.params.length c8, .slice A11 f.blocks.length c11] 43) :: insRow (b.at_ A26 c26 il) :: X2) [] fun _ x => by rw [e, e2, hdr]; simp only [List.set_cons_succ, List.set_cons_zero, List.count_cons, List.append_nil]; omega) ?_
    refine Ol.nil ?_
    refine Cd.region ?_
    refine Ol.p addi ?_
    refine Ol.p mvi ?_
    refine Ol.nil ?_
    refine ⟨f.blocks.length - (k + 1), by omega, k + 1, l' ++ [b.at_ A26 c26 il], insRow (b.at_ A26 c26 il) :: X2, rfl, by omega, ?_, ?_, ⟨rfl, rfl, rfl, rfl, trivial⟩, rfl⟩
    · rw [take_snoc_ hb, List.map_append, List.map_append, hbare, List.map_singleton, List.map_singleton, RBlk.at_bare hib2]
    · rw [List.flatMap_append]
      have : [b.at_ A26 c26 il].flatMap blkRes = insRow (b.at_ A26 c26 il) :: il.map insRes := by simp [blkRes, RBlk.at_]
      rw [this]
      exact (hX2.cons _).trans (List.perm_append_comm (l₁ := insRow (b.at_ A26 c26 il) :: il.map insRes))
  have hke : k = f.blocks.length := by
    simp only [decide_eq_false_iff_not] at h; omega
  have hll : l'.length = f.blocks.length := by omega
  have hdr : l' ++ f.blocks.drop k = l' := by rw [List.drop_eq_nil_of_le (by omega), List.append_nil]
  refine Cd.exit (id := 0) ?_
  refine Cd.seq ?_
  refine Cd.region ?_
  refine Ol.p (ldw (cs := #[.slice A8 f.params.length c8, .slice A11 f.blocks.length c11]) ag_api_Func (i := 3) rfl rfl) ?_
  refine Ol.s (stw (vs := #[.slice A8 f.params.length c8, .slice A11 f.blocks.length c11]) sz_api_Func rfl (by intro u hu; simp at hu; rcases hu with rfl | rfl <;> rfl) (i := 2) rfl rfl) ?_
  refine Ol.nil ?_
  refine Cd.ret ⟨_, retc rfl ag_api_Func rfl (i := 2) rfl rfl, _, .sub (.cons_cons _ (.cons_cons _ (.cons _ (.cons _ (List.Sublist.refl _))))), ⟨A8, c8, f.params, A11, c11, l'⟩, ?_, ?_, ?_⟩
  · unfold RFun.bare
    rw [show (l' : List RBlk).map RBlk.bare = f.blocks.map RBlk.bare by rw [hbare, hke, List.take_of_length_le (Nat.le_refl _)]]
  · unfold RFun.val RFun.cells
    simp only [hll]
  · rw [hdr, hrP, ← hll]
    exact ((hX.cons _).cons _).trans (List.Perm.swap ..)
end
end Go.Proofs.Ytcojedoejpcolaa

/- The package split: a function is copied, walked. -/
namespace Go.Proofs.Ytcojedoejpcolaa
set_option linter.unusedVariables false
open Go Go.RowKit
set_option maxRecDepth 100000

/-- A block of one's own is a row. -/
theorem Hp.rerow {w0 w : World} {B g n c e s : Nat} {M L : List Res} {cs : Array Value} (h : Hp w0 B (M ++ (blk g (.cells cs e) :: L)) w) (hs : cs.size = c * s) (hn : n ≤ c) (hc : c ≤ maxLen) : Hp w0 B (M ++ (row (.slice (some ⟨g, 0, none⟩) n c) e s n (cs.toList.take (n * s)) :: L)) w := by
  have hg : w.heap[g]? = some (.cells cs e) := h.has (blk g (.cells cs e)) (by simp)
  refine Hp.set0 (r := blk g (.cells cs e)) (r' := row (.slice (some ⟨g, 0, none⟩) n c) e s n (cs.toList.take (n * s))) h (Stp.refl _ _) ?_ (fun k hk => ?_)
  · refine ⟨?_, .inr ⟨g, c, cs, rfl, Nat.zero_le _, hg, hn, hc, hs, rfl⟩⟩
    simp only [List.length_take, Array.length_toList, hs]
    exact Nat.min_eq_left (Nat.mul_le_mul_right _ hn)
  · have : g = k := by simpa [row, Value.ownBlock] using hk
    subst this
    simp [blk]
theorem Cd.rerow {C : Ctx} {x : Code} {Q : Exit → Env → List Res → Prop} {σ : Env} {L : List Res} {g n c e s : Nat} {cs : Array Value} (hs : cs.size = c * s) (hn : n ≤ c) (hc : c ≤ maxLen) (h : Cd C x Q σ (row (.slice (some ⟨g, 0, none⟩) n c) e s n (cs.toList.take (n * s)) :: L)) : Cd C x Q σ (blk g (.cells cs e) :: L) := fun a w ha hst =>
  h a w ha ⟨hst.size, hst.heap.rerow hs hn hc⟩
theorem Ol.rerow {C : Ctx} {all : Array Oper} {l : List Oper} {K : Env → List Res → Prop} {σ : Env} {L : List Res} {g n c e s : Nat} {cs : Array Value} (hs : cs.size = c * s) (hn : n ≤ c) (hc : c ≤ maxLen) (h : Ol C all l K σ (row (.slice (some ⟨g, 0, none⟩) n c) e s n (cs.toList.take (n * s)) :: L)) : Ol C all l K σ (blk g (.cells cs e) :: L) := fun a w Q ha hst hq =>
  h a w Q ha ⟨hst.size, hst.heap.rerow hs hn hc⟩ hq
section
set_option maxHeartbeats 4000000 in
theorem split_copied_ct {w : World} {f : RFun} (hf : FunAt w w.heap.size f) (hp : f.params.length < 2 ^ 43) (hl : BlksIn w w.heap.size f.bA f.blocks) (hal : ∀ b ∈ f.blocks, ∀ i ∈ b.ins, i.args.length < 2 ^ 43) : Ct Try.prog 99 #[f.val] w (fun v R => ∃ g : RFun, g.bare = f.bare ∧ v = g.val ∧ R.Perm (funRes g)) := by
  have hlen := hl.len
  refine Ct.mk Try.func99 rfl rfl ?_
  refine Cd.seq ?_
  refine Cd.region ?_
  refine Ol.x bxg ?_
  rintro _ _ ⟨g1, rfl, rfl⟩
  refine Ol.x (alc zr_api_Func) ?_
  rintro _ _ ⟨g2, rfl, rfl⟩
  refine Ol.nil ?_
  refine Cd.seq ?_
  refine Cd.draw mixed 9 (fun opNo => match opNo with | 2 => some (NewL 3 1 f.params.length (ints f.params)) | 6 => some (NewSv 50 5 f.blocks.length f.blocks.length ((madeCells (Value.agg #[.slice none 0 0, .int .i64 0, .int .i64 0, .int .i64 0, .int .i64 0]).cells (f.blocks.length * 5)).toList.take (f.blocks.length * 5))) | 8 => some (NewPv (.cells #[.slice none 0 0, .slice none 0 0] 43)) | _ => none) (fun _ => []) (by kernel_rfl) (by intro q V h; split at h <;> cases h; exact ⟨_, _, none, 0, rfl, rfl⟩; exact ⟨_, _, 0, rfl, rfl⟩; exact ⟨_, _, 0, rfl, rfl⟩) (fun u hu => ?_)
  refine Wk.p (fdl fd_api_Func_0) ?_
  refine Wk.p (ld (v := .slice f.pA f.params.length f.pC) one_L_int (Rd.blk (i := 1) rfl rfl)) ?_
  refine Wk.x (V := NewL 3 1 f.params.length (ints f.params)) hu (sp_call en_slices_Clone_L_int_int (fun M w' hh => slices_Clone_L_int_int_ct (hf.params.now hh) (ints_one _) hp)) ?_
  rintro _ _ hu2 ⟨A9, c9, rfl, rfl⟩
  refine Wk.p (fdl fd_api_Func_1) ?_
  refine Wk.p (ld (v := .slice f.bA f.blocks.length f.bC) one_L_api_Block (Rd.blk (i := 1) rfl rfl)) ?_
  refine Wk.p (lens sl_L_api_Block) ?_
  refine Wk.x (V := NewSv 50 5 f.blocks.length f.blocks.length ((madeCells (Value.agg #[.slice none 0 0, .int .i64 0, .int .i64 0, .int .i64 0, .int .i64 0]).cells (f.blocks.length * 5)).toList.take (f.blocks.length * 5))) hu (NewS.adds (mks (n := f.blocks.length) (c := f.blocks.length) sl_L_api_Block zr_api_Block)) ?_
  rintro _ _ hu6 ⟨gB, rfl, rfl⟩
  refine Wk.p (bds bs_api_Func zr_api_Func) ?_
  refine Wk.x (V := NewPv (.cells #[.slice none 0 0, .slice none 0 0] 43)) hu (NewP.adds (alc zr_api_Func)) ?_
  rintro _ _ hu8 ⟨g3, rfl, rfl⟩
  refine Wk.nil ?_
  rw [needs_cons hu8, needs_cons hu6, needs_cons hu2, needs_none]
  refine Ol.s (stw (vs := #[.slice A9 f.params.length c9, .slice (some ⟨gB, 0, none⟩) f.blocks.length f.blocks.length]) sz_api_Func rfl (by intro u hu; simp at hu; rcases hu with rfl | rfl <;> rfl) (i := 0) rfl rfl) ?_
  refine Ol.nil ?_
  obtain ⟨rowP, hrP⟩ : ∃ r, r = row (.slice A9 f.params.length c9) 3 1 f.params.length (ints f.params) := ⟨_, rfl⟩
  rw [← hrP]
  refine Cd.keep (L' := row (.slice (some ⟨gB, 0, none⟩) f.blocks.length f.blocks.length) 50 5 f.blocks.length ((madeCells (Value.agg #[.slice none 0 0, .int .i64 0, .int .i64 0, .int .i64 0, .int .i64 0]).cells (f.blocks.length * 5)).toList.take (f.blocks.length * 5)) :: rowP :: blk g3 (.cells #[.slice A9 f.params.length c9, .slice (some ⟨gB, 0, none⟩) f.blocks.length f.blocks.length] 43) :: blk g2 (.cells #[.slice none 0 0, .slice none 0 0] 43) :: blk g1 (.cells f.cells.toArray 43) :: [] ) (keep_count [] fun _ x => by
    rw [show (Value.agg #[Value.slice none 0 0, Value.slice none 0 0]).cells = #[.slice none 0 0, .slice none 0 0] from rfl]
    simp only [List.cons_append, List.nil_append, List.set_cons_zero, List.count_cons, List.count_nil, List.append_nil]; omega) ?_
  refine Cd.unrow fun cs hcs _ => ?_
  refine Cd.seq ?_
  refine Cd.region ?_
  refine Ol.p (fdl fd_api_Func_1) ?_
  refine Ol.p (ld (v := .slice (some ⟨gB, 0, none⟩) f.blocks.length f.blocks.length) one_L_api_Block (Rd.blk (i := 2) rfl rfl)) ?_
  refine Ol.p (fdl fd_api_Func_1) ?_
  refine Ol.p (ld (v := .slice f.bA f.blocks.length f.bC) one_L_api_Block (Rd.blk (i := 4) rfl rfl)) ?_
  refine Ol.s (cpb (i := 0) (off := 0) (n := f.blocks.length) (m := f.blocks.length) (q := f.blocks.length) sl_L_api_Block rfl (Src.slc hl.row) (one_flatB _) (by show f.blocks.length = Nat.min f.blocks.length f.blocks.length; exact (Nat.min_self _).symm) (by omega)) ?_
  refine Ol.nil ?_
  have hbL : (f.blocks.flatMap RBlk.cells).length = f.blocks.length * 5 := hl.row.1
  have ecs : (cs.toList.take 0 ++ (f.blocks.flatMap RBlk.cells).take (f.blocks.length * 5) ++ cs.toList.drop (0 + f.blocks.length * 5)) = f.blocks.flatMap RBlk.cells := by
    rw [List.take_of_length_le (l := f.blocks.flatMap RBlk.cells) (i := f.blocks.length * 5) (by omega), List.drop_eq_nil_of_le (by rw [Array.length_toList]; omega)]
    simp
  rw [ecs]
  refine Cd.rerow (n := f.blocks.length) (c := f.blocks.length) (s := 5) (by simpa using hbL) (Nat.le_refl _) (by unfold maxLen; omega) ?_
  have e9 : (f.blocks.flatMap RBlk.cells).toArray.toList.take (f.blocks.length * 5) = f.blocks.flatMap RBlk.cells := by
    have h9 : (f.blocks.flatMap RBlk.cells).toArray.toList = f.blocks.flatMap RBlk.cells := rfl
    rw [h9, List.take_of_length_le (Nat.le_of_eq hbL)]
  rw [e9]
  refine Cd.seq ?_
  refine Cd.seq ?_
  refine Cd.region ?_
  refine Ol.p (fdl fd_api_Func_1) ?_
  refine Ol.p (ld (v := .slice (some ⟨gB, 0, none⟩) f.blocks.length f.blocks.length) one_L_api_Block (Rd.blk (i := 2) rfl rfl)) ?_
  refine Ol.p (lens sl_L_api_Block) ?_
  refine Ol.p mvi ?_
  refine Ol.nil ?_
  refine Cd.block ?_   -- 0
  refine Cd.loop (fun m σ L => ∃ (k : Nat) (l' : List RBlk) (X : List Res), m = f.blocks.length - k ∧ k ≤ f.blocks.length ∧ l'.map RBlk.bare = (f.blocks.take k).map RBlk.bare ∧ X.Perm (l'.flatMap blkRes) ∧ Has σ [(1, .pointer (some ⟨g1, 0, none⟩)), (2, .pointer (some ⟨g2, 0, none⟩)), (3, .pointer (some ⟨g3, 0, none⟩)), (22, .int .i64 f.blocks.length), (23, .int .i64 k)] ∧ row (.slice (some ⟨gB, 0, none⟩) f.blocks.length f.blocks.length) 50 5 f.blocks.length ((l' ++ f.blocks.drop k).flatMap RBlk.cells) :: rowP :: blk g3 (.cells #[.slice A9 f.params.length c9, .slice (some ⟨gB, 0, none⟩) f.blocks.length f.blocks.length] 43) :: blk g2 (.cells #[.slice none 0 0, .slice none 0 0] 43) :: blk g1 (.cells f.cells.toArray 43) :: X = L) (n := f.blocks.length) ⟨0, [], [], rfl, Nat.zero_le _, rfl, .refl _, ⟨rfl, rfl, rfl, rfl, rfl, trivial⟩, rfl⟩ ?_
  rintro _ σ L ⟨k, l', X, rfl, hk, hbare, hX, hs, rfl⟩
  have hkl : l'.length = k := by
    have := congrArg List.length hbare
    simp at this; omega
  refine Cd.has hs ?_
  clear hs
  refine Cd.seq ?_
  refine Cd.region ?_
  refine Ol.p lsi ?_
  refine Ol.nil ?_
  refine Cd.seq ?_
  refine Cd.cond rfl (fun h => ?_) (fun h => ?_)   -- $18
  · have hlt : k < f.blocks.length := by
      simp only [decide_eq_true_eq] at h; omega
    obtain ⟨b, hb⟩ : ∃ b, f.blocks[k]? = some b := ⟨_, List.getElem?_eq_getElem hlt⟩
    have hbm := List.mem_of_getElem? hb
    have hil := hl.ilen b hbm
    refine Cd.skip ?_
    refine Cd.seq ?_
    refine Cd.block ?_   -- 1
    refine Cd.seq ?_
    refine Cd.region ?_
    refine Ol.p mvi ?_
    refine Ol.p asi ?_
    refine Ol.nil ?_
    refine Cd.seq ?_
    refine Cd.region ?_
    refine Ol.p (fdl fd_api_Func_1) ?_
    refine Ol.p (ld (v := .slice f.bA f.blocks.length f.bC) one_L_api_Block (Rd.blk (i := 4) rfl rfl)) ?_
    refine Ol.p mvi ?_
    refine Ol.p (ixn (ix := k) sl_L_api_Block (Som.slc hl.row (by omega))) ?_
    refine Ol.p (fdp fd_api_Block_0) ?_
    refine Ol.p (ld (v := .slice b.iA b.ins.length b.iC) one_L_api_Ins (Rd.slc hl.row (blk_cell (j := 0) hb rfl))) ?_
    refine Ol.x (sp_call en_slices_Clone_L_api_Ins_api_Ins (fun M w' hh => slices_Clone_L_api_Ins_ct ((hl.ins b hbm).now hh) (one_flatI _) hil)) ?_
    rintro _ _ ⟨_, rfl, A26, c26, rfl, rfl⟩
    refine Ol.p ass ?_
    refine Ol.nil ?_
    refine Cd.seq ?_
    refine Cd.seq ?_
    refine Cd.region ?_
    refine Ol.p mvs ?_
    refine Ol.p (lens sl_L_api_Ins) ?_
    refine Ol.p mvi ?_
    refine Ol.nil ?_
    refine Cd.block ?_   -- 2
    refine Cd.loop (fun m σ L => ∃ (q : Nat) (il : List RIns) (X2 : List Res), m = b.ins.length - q ∧ q ≤ b.ins.length ∧ il.map RIns.bare = (b.ins.take q).map RIns.bare ∧ X2.Perm (il.map insRes ++ l'.flatMap blkRes) ∧ Has σ [(1, .pointer (some ⟨g1, 0, none⟩)), (2, .pointer (some ⟨g2, 0, none⟩)), (3, .pointer (some ⟨g3, 0, none⟩)), (4, .int .i64 k), (5, .slice A26 b.ins.length c26), (22, .int .i64 f.blocks.length), (23, .int .i64 k), (34, .int .i64 b.ins.length), (35, .int .i64 q)] ∧ row (.slice A26 b.ins.length c26) 25 8 b.ins.length ((il ++ b.ins.drop q).flatMap RIns.cells) :: row (.slice (some ⟨gB, 0, none⟩) f.blocks.length f.blocks.length) 50 5 f.blocks.length ((l' ++ f.blocks.drop k).flatMap RBlk.cells) :: rowP :: blk g3 (.cells #[.slice A9 f.params.length c9, .slice (some ⟨gB, 0, none⟩) f.blocks.length f.blocks.length] 43) :: blk g2 (.cells #[.slice none 0 0, .slice none 0 0] 43) :: blk g1 (.cells f.cells.toArray 43) :: X2 = L) (n := b.ins.length) ⟨0, [], X, rfl, Nat.zero_le _, rfl, hX, ⟨rfl, rfl, rfl, rfl, rfl, rfl, rfl, rfl, rfl, trivial⟩, rfl⟩ ?_
    rintro _ σ L ⟨q, il, X2, rfl, hq, hib, hX2, hs, rfl⟩
    have hql : il.length = q := by
      have := congrArg List.length hib
      simp at this; omega
    refine Cd.has hs ?_
    clear hs
    refine Cd.seq ?_
    refine Cd.region ?_
    refine Ol.p lsi ?_
    refine Ol.nil ?_
    refine Cd.seq ?_
    refine Cd.cond rfl (fun h => ?_) (fun h => ?_)   -- $30
    · have hqt : q < b.ins.length := by
        simp only [decide_eq_true_eq] at h; omega
      obtain ⟨i, hi⟩ : ∃ i, b.ins[q]? = some i := ⟨_, List.getElem?_eq_getElem hqt⟩
      have him := List.mem_of_getElem? hi
      have hial := hal b hbm i him
      have e : ∀ (A : Option Addr) (c : Nat), ((il ++ b.ins.drop q).flatMap RIns.cells).set (q * 8 + 6) (.slice A i.args.length c) = (il ++ [i.at_ A c] ++ b.ins.drop (q + 1)).flatMap RIns.cells := fun A c => by
        rw [flat_set_at (F := RIns.cells) RIns.len (by decide) (x := i) (x' := i.at_ A c) rfl (get_next hql hi), put_next hql hi]
      refine Cd.skip ?_
      refine Cd.seq ?_
      refine Cd.block ?_   -- 3
      refine Cd.seq ?_
      refine Cd.region ?_
      refine Ol.p mvi ?_
      refine Ol.p asi ?_
      refine Ol.nil ?_
      refine Cd.region ?_
      refine Ol.p mvs ?_
      refine Ol.p mvi ?_
      refine Ol.p mvs ?_
      refine Ol.p mvi ?_
      refine Ol.p (ixn (ix := q) sl_L_api_Ins (Som.row (i := 0) rfl (by omega))) ?_
      refine Ol.p (fdp fd_api_Ins_6) ?_
      refine Ol.p (ld (v := .slice i.aA i.args.length i.aC) one_L_int (Rd.row (i := 0) rfl (ins_cell (j := 6) (get_next hql hi) rfl))) ?_
      refine Ol.x (sp_call en_slices_Clone_L_int_int (fun M w' hh => slices_Clone_L_int_int_ct (xs := ints i.args) ((hl.args b hbm i him).now hh) (ints_one _) hial)) ?_
      rintro _ _ ⟨_, rfl, A39, c39, rfl, rfl⟩
      refine Ol.p (ixn (ix := q) sl_L_api_Ins (Som.row (i := 1) rfl (by omega))) ?_
      refine Ol.p (fdp fd_api_Ins_6) ?_
      refine Ol.s (str (v := .slice A39 i.args.length c39) (i := 1) (k := q * 8 + 6) (A := A26) (xs := (il ++ b.ins.drop q).flatMap RIns.cells) sz_L_int rfl rfl rfl (List.getElem?_eq_some_iff.1 (ins_cell (j := 6) (get_next hql hi) rfl)).1 rfl) ?_
      refine Ol.keep (keep_count (L' := row (.slice A26 b.ins.length c26) 25 8 b.ins.length ((il ++ [i.at_ A39 c39] ++ b.ins.drop (q + 1)).flatMap RIns.cells) :: row (.slice (some ⟨gB, 0, none⟩) f.blocks.length f.blocks.length) 50 5 f.blocks.length ((l' ++ f.blocks.drop k).flatMap RBlk.cells) :: rowP :: blk g3 (.cells #[.slice A9 f.params.length c9, .slice (some ⟨gB, 0, none⟩) f.blocks.length f.blocks.length] 43) :: blk g2 (.cells #[.slice none 0 0, .slice none 0 0] 43) :: blk g1 (.cells f.cells.toArray 43) :: insRes (i.at_ A39 c39) :: X2) [] fun _ x => by rw [e, show insRes (i.at_ A39 c39) = row (.slice A39 i.args.length c39) 3 1 i.args.length (ints i.args) from rfl]; simp only [List.cons_append, List.nil_append, List.set_cons_succ, List.set_cons_zero, List.count_cons, List.append_nil]; omega) ?_
      refine Ol.nil ?_
      refine Cd.region ?_
      refine Ol.p addi ?_
      refine Ol.p mvi ?_
      refine Ol.nil ?_
      refine ⟨b.ins.length - (q + 1), by omega, q + 1, il ++ [i.at_ A39 c39], insRes (i.at_ A39 c39) :: X2, rfl, by omega, ?_, ?_, ⟨rfl, rfl, rfl, rfl, rfl, rfl, rfl, rfl, rfl, trivial⟩, rfl⟩
      · rw [take_snoc_ hi, List.map_append, List.map_append, hib]; rfl
      · rw [List.map_append, List.append_assoc]
        exact (hX2.cons _).trans List.perm_middle.symm
    have hqe : q = b.ins.length := by
      simp only [decide_eq_false_iff_not] at h; omega
    have hil' : il.length = b.ins.length := by omega
    have hdr : il ++ b.ins.drop q = il := by rw [List.drop_eq_nil_of_le (by omega), List.append_nil]
    have hib2 : il.map RIns.bare = b.ins.map RIns.bare := by rw [hib, hqe, List.take_of_length_le (Nat.le_refl _)]
    have e : ((l' ++ f.blocks.drop k).flatMap RBlk.cells).set (k * 5 + 0) (.slice A26 b.ins.length c26) = (l' ++ [b.at_ A26 c26 il] ++ f.blocks.drop (k + 1)).flatMap RBlk.cells := by
      rw [flat_set_at (F := RBlk.cells) RBlk.len (by decide) (x := b) (x' := b.at_ A26 c26 il) (by unfold RBlk.at_ RBlk.cells; simp only [hil']; rfl) (get_next hkl hb), put_next hkl hb]
    have e2 : insRow (b.at_ A26 c26 il) = row (.slice A26 b.ins.length c26) 25 8 b.ins.length (il.flatMap RIns.cells) := by
      unfold insRow RBlk.at_; simp only [hil']
    refine Cd.exit (id := 2) ?_
    refine Cd.region ?_
    refine Ol.p (fdl fd_api_Func_1) ?_
    refine Ol.p (ld (v := .slice (some ⟨gB, 0, none⟩) f.blocks.length f.blocks.length) one_L_api_Block (Rd.blk (i := 3) rfl rfl)) ?_
    refine Ol.p mvi ?_
    refine Ol.p mvs ?_
    refine Ol.p (ixn (ix := k) sl_L_api_Block (Som.row (i := 1) rfl (by omega))) ?_
    refine Ol.p (fdp fd_api_Block_0) ?_
    refine Ol.s (str (v := .slice A26 b.ins.length c26) (i := 1) (k := k * 5 + 0) (A := some ⟨gB, 0, none⟩) (xs := (l' ++ f.blocks.drop k).flatMap RBlk.cells) sz_L_api_Ins rfl rfl rfl (List.getElem?_eq_some_iff.1 (blk_cell (j := 0) (get_next hkl hb) rfl)).1 rfl) ?_
    refine Ol.keep (keep_count (L' := row (.slice (some ⟨gB, 0, none⟩) f.blocks.length f.blocks.length) 50 5 f.blocks.length ((l' ++ [b.at_ A26 c26 il] ++ f.blocks.drop (k + 1)).flatMap RBlk.cells) :: rowP :: blk g3 (.cells #[.slice A9 f.params.length c9, .slice (some ⟨gB, 0, none⟩) f.blocks.length f.blocks.length] 43) :: blk g2 (.cells #[.slice none 0 0, .slice none 0 0] 43) :: blk g1 (.cells f.cells.toArray 43) :: insRow (b.at_ A26 c26 il) :: X2) [] fun _ x => by rw [e, e2, hdr]; simp only [List.set_cons_succ, List.set_cons_zero, List.count_cons, List.append_nil]; omega) ?_
    refine Ol.nil ?_
    refine Cd.region ?_
    refine Ol.p addi ?_
    refine Ol.p mvi ?_
    refine Ol.nil ?_
    refine ⟨f.blocks.length - (k + 1), by omega, k + 1, l' ++ [b.at_ A26 c26 il], insRow (b.at_ A26 c26 il) :: X2, rfl, by omega, ?_, ?_, ⟨rfl, rfl, rfl, rfl, rfl, trivial⟩, rfl⟩
    · rw [take_snoc_ hb, List.map_append, List.map_append, hbare, List.map_singleton, List.map_singleton, RBlk.at_bare hib2]
    · rw [List.flatMap_append]
      have : [b.at_ A26 c26 il].flatMap blkRes = insRow (b.at_ A26 c26 il) :: il.map insRes := by simp [blkRes, RBlk.at_]
      rw [this]
      exact (hX2.cons _).trans (List.perm_append_comm (l₁ := insRow (b.at_ A26 c26 il) :: il.map insRes))
  have hke : k = f.blocks.length := by
    simp only [decide_eq_false_iff_not] at h; omega
  have hll : l'.length = f.blocks.length := by omega
  have hdr : l' ++ f.blocks.drop k = l' := by rw [List.drop_eq_nil_of_le (by omega), List.append_nil]
  refine Cd.exit (id := 0) ?_
  refine Cd.seq ?_
  refine Cd.region ?_
  refine Ol.p (ldw (cs := #[.slice A9 f.params.length c9, .slice (some ⟨gB, 0, none⟩) f.blocks.length f.blocks.length]) ag_api_Func (i := 2) rfl rfl) ?_
  refine Ol.s (stw (vs := #[.slice A9 f.params.length c9, .slice (some ⟨gB, 0, none⟩) f.blocks.length f.blocks.length]) sz_api_Func rfl (by intro u hu; simp at hu; rcases hu with rfl | rfl <;> rfl) (i := 3) rfl rfl) ?_
  refine Ol.nil ?_
  refine Cd.ret ⟨_, retc rfl ag_api_Func rfl (i := 3) rfl rfl, _, .sub (.cons_cons _ (.cons_cons _ (.cons _ (.cons _ (.cons _ (List.Sublist.refl _)))))), ⟨A9, c9, f.params, some ⟨gB, 0, none⟩, f.blocks.length, l'⟩, ?_, ?_, ?_⟩
  · unfold RFun.bare
    rw [show (l' : List RBlk).map RBlk.bare = f.blocks.map RBlk.bare by rw [hbare, hke, List.take_of_length_le (Nat.le_refl _)]]
  · unfold RFun.val RFun.cells
    simp only [hll]
  · rw [hdr, hrP, ← hll]
    exact ((hX.cons _).cons _).trans (List.Perm.swap ..)
end
end Go.Proofs.Ytcojedoejpcolaa

/- The package flow: edges of blocks, the critical ones, walked. -/
namespace Go.Proofs.Ytcojedoejpcolaa
set_option linter.unusedVariables false
open Go Go.RowKit
set_option maxRecDepth 100000

/-- A cell of a block of one's own, in whatever is called later. -/
theorem Hp.keeps {w0 w w2 : World} {B i g k : Nat} {M L : List Res} {cs : Array Value} {e : TypeId} {fz : Nat × Nat} {v : Value} (hh : Hp w0 B (M ++ L) w) (hi : L[i]? = some (blk g (.cells cs e fz))) (hk : cs[k]? = some v) (hb : Below w.heap.size w w2) : w2.cell? ⟨g, k, none⟩ = some v := by
  have h1 := Rd.blk hi hk M w hh
  have hlt : g < w.heap.size := World.block_lt_of_cell? w _ h1
  exact (hb.cell (p := ⟨g, k, none⟩) hlt).trans h1
theorem Hp.keepsObj {w0 w w2 : World} {B i g : Nat} {M L : List Res} {o : Obj} (hh : Hp w0 B (M ++ L) w) (hi : L[i]? = some (blk g o)) (hb : Below w.heap.size w w2) : w2.heap[g]? = some o ∧ g < w2.heap.size := by
  have h1 : w.heap[g]? = some o := hh.at_ hi
  have hlt := (Array.getElem?_eq_some_iff.1 h1).1
  exact ⟨(hb.block g hlt).trans h1, Nat.lt_of_lt_of_le hlt hb.size⟩
section
theorem flow_Into_1_ct {w : World} {e : Ed} {g : Nat} {b : Int} (hc : w.cell? ⟨g, 0, none⟩ = some (.int .i64 b)) : Ct Try.prog 105 #[e.val, .pointer (some ⟨g, 0, none⟩)] w (Is (.bool (decide (e.to = b)))) := by
  have hlt : g < w.heap.size := World.block_lt_of_cell? w _ hc
  refine Ct.mk Try.func105 rfl rfl ?_
  refine Cd.seq ?_
  refine Cd.region ?_
  refine Ol.x bxg ?_
  rintro _ _ ⟨g2, rfl, rfl⟩
  refine Ol.p asb ?_
  refine Ol.nil ?_
  refine Cd.seq ?_
  refine Cd.region ?_
  refine Ol.p (fdl fd_api_Edge_2) ?_
  refine Ol.p (ld one_int (Rd.blk (i := 0) rfl rfl)) ?_
  refine Ol.p (ld one_int (Rd.inp hlt hc)) ?_
  refine Ol.p eqi ?_
  refine Ol.p asb ?_
  refine Ol.nil ?_
  refine Cd.ret ⟨.bool _, ret1 rfl rfl, [], .nil, rfl, rfl⟩
theorem flow_Into_ct {w : World} {f : RFun} {b : Int} (hf : FunAt w w.heap.size f) (hfit : Fit f) : Ct Try.prog 58 #[f.val, .int .i64 b] w (NewL 85 3 (someE f.terms fun e => decide (e.to = b)).length (edV (someE f.terms fun e => decide (e.to = b)))) := by
  refine Ct.mk Try.func58 rfl rfl ?_
  refine Cd.seq ?_
  refine Cd.region ?_
  refine Ol.x bxg ?_
  rintro _ _ ⟨g2, rfl, rfl⟩
  refine Ol.x bxi ?_
  rintro _ _ ⟨g3, rfl, rfl⟩
  refine Ol.p ass ?_
  refine Ol.nil ?_
  refine Cd.seq ?_
  refine Cd.region ?_
  refine Ol.p (ldw ag_api_Func (i := 1) rfl rfl) ?_
  refine Ol.p mkf ?_
  refine Ol.x (sp_call en_flow_some (fun M w' hh => flow_some_ct (g := 105) (fst := #[]) (cap := #[.pointer (some ⟨g3, 0, none⟩)]) (p := fun e => decide (e.to = b)) (hf.now hh) hfit ⟨en_flow_Into_1, fun e he w2 h2 => flow_Into_1_ct (Hp.keeps hh (i := 0) rfl rfl h2)⟩)) ?_
  rintro _ _ ⟨_, rfl, A, c, rfl, rfl⟩
  refine Ol.p ass ?_
  refine Ol.nil ?_
  refine Cd.ret ⟨.slice _ _ _, ret1 rfl rfl, _, .sub (.cons_cons _ (.cons _ (.cons _ .slnil))), A, c, rfl, rfl⟩
end
section
theorem flow_From_1_ct {w : World} {e : Ed} {g : Nat} {b : Int} (hc : w.cell? ⟨g, 0, none⟩ = some (.int .i64 b)) : Ct Try.prog 109 #[e.val, .pointer (some ⟨g, 0, none⟩)] w (Is (.bool (decide (e.src = b)))) := by
  have hlt : g < w.heap.size := World.block_lt_of_cell? w _ hc
  refine Ct.mk Try.func109 rfl rfl ?_
  refine Cd.seq ?_
  refine Cd.region ?_
  refine Ol.x bxg ?_
  rintro _ _ ⟨g2, rfl, rfl⟩
  refine Ol.p asb ?_
  refine Ol.nil ?_
  refine Cd.seq ?_
  refine Cd.region ?_
  refine Ol.p (fdl fd_api_Edge_0) ?_
  refine Ol.p (ld one_int (Rd.blk (i := 0) rfl rfl)) ?_
  refine Ol.p (ld one_int (Rd.inp hlt hc)) ?_
  refine Ol.p eqi ?_
  refine Ol.p asb ?_
  refine Ol.nil ?_
  refine Cd.ret ⟨.bool _, ret1 rfl rfl, [], .nil, rfl, rfl⟩
theorem flow_From_ct {w : World} {f : RFun} {b : Int} (hf : FunAt w w.heap.size f) (hfit : Fit f) : Ct Try.prog 62 #[f.val, .int .i64 b] w (NewL 85 3 (someE f.terms fun e => decide (e.src = b)).length (edV (someE f.terms fun e => decide (e.src = b)))) := by
  refine Ct.mk Try.func62 rfl rfl ?_
  refine Cd.seq ?_
  refine Cd.region ?_
  refine Ol.x bxg ?_
  rintro _ _ ⟨g2, rfl, rfl⟩
  refine Ol.x bxi ?_
  rintro _ _ ⟨g3, rfl, rfl⟩
  refine Ol.p ass ?_
  refine Ol.nil ?_
  refine Cd.seq ?_
  refine Cd.region ?_
  refine Ol.p (ldw ag_api_Func (i := 1) rfl rfl) ?_
  refine Ol.p mkf ?_
  refine Ol.x (sp_call en_flow_some (fun M w' hh => flow_some_ct (g := 109) (fst := #[]) (cap := #[.pointer (some ⟨g3, 0, none⟩)]) (p := fun e => decide (e.src = b)) (hf.now hh) hfit ⟨en_flow_From_1, fun e he w2 h2 => flow_From_1_ct (Hp.keeps hh (i := 0) rfl rfl h2)⟩)) ?_
  rintro _ _ ⟨_, rfl, A, c, rfl, rfl⟩
  refine Ol.p ass ?_
  refine Ol.nil ?_
  refine Cd.ret ⟨.slice _ _ _, ret1 rfl rfl, _, .sub (.cons_cons _ (.cons _ (.cons _ .slnil))), A, c, rfl, rfl⟩
end

/-- How often a number stands among some. -/
def cnt (l : List Int) (n : Int) : Nat := l.count n
/-- Is an edge critical: one of more out of its block, one of more into its block? -/
def critE (ts : List Tm) (e : Ed) : Bool := decide (1 < cnt ((edges ts).map Ed.to) e.to) && decide (1 < cnt ((edges ts).map Ed.src) e.src)
/-- A map that counts. -/
def Cnts (es : List MapEntry) (l : List Int) : Prop := AllI es ∧ ∀ n, (mget es n).getD (.int .i64 0) = .int .i64 (cnt l n : Int)
theorem Cnts.nil : Cnts [] [] := ⟨fun e h => (by cases h), fun n => by simp [mget, cnt]⟩
theorem Cnts.snoc {es es' : List MapEntry} {l : List Int} {k : Int} (h : Cnts es l) (ha : AllI es') (hm : ∀ m, mget es' m = if m = k then some (.int .i64 ((cnt l k : Int) + 1)) else mget es m) : Cnts es' (l ++ [k]) := ⟨ha, fun n => by
  rw [hm n]
  by_cases hn : n = k
  · subst hn
    simp [cnt]
  · rw [if_neg hn, h.2 n]
    have : ¬ k = n := fun e => hn e.symm
    simp [cnt, List.count_append, this]⟩
section
theorem flow_Critical_1_ct {w : World} {e : Ed} {ga gb m1 m2 c1 c2 : Nat} {es1 es2 : Array MapEntry} {l1 l2 : List Int} (ha : w.cell? ⟨ga, 0, none⟩ = some (.map (some m1))) (hb : w.cell? ⟨gb, 0, none⟩ = some (.map (some m2)))
    (h1 : w.heap[m1]? = some (.map es1 c1)) (h2 : w.heap[m2]? = some (.map es2 c2)) (k1 : Cnts es1.toList l1) (k2 : Cnts es2.toList l2) :
    Ct Try.prog 107 #[e.val, .pointer (some ⟨ga, 0, none⟩), .pointer (some ⟨gb, 0, none⟩)] w (Is (.bool (decide (1 < cnt l1 e.to) && decide (1 < cnt l2 e.src)))) := by
  have hlt1 : ga < w.heap.size := World.block_lt_of_cell? w _ ha
  have hlt2 : gb < w.heap.size := World.block_lt_of_cell? w _ hb
  have hm1 := (Array.getElem?_eq_some_iff.1 h1).1
  have hm2 := (Array.getElem?_eq_some_iff.1 h2).1
  refine Ct.mk Try.func107 rfl rfl ?_
  refine Cd.seq ?_
  refine Cd.region ?_
  refine Ol.x bxg ?_
  rintro _ _ ⟨g3, rfl, rfl⟩
  refine Ol.p asb ?_
  refine Ol.nil ?_
  refine Cd.seq ?_
  cases hc : decide ((1 : Int) < (cnt l1 e.to : Int)) with
  | true =>
    refine Cd.region ?_
    refine Ol.p (ld one_map_int_int (Rd.inp hlt1 ha)) ?_
    refine Ol.p (fdl fd_api_Edge_2) ?_
    refine Ol.p (ld one_int (Rd.blk (i := 0) rfl rfl)) ?_
    refine Ol.p (lkw mt_map_int_int hm1 h1 k1.1 (k1.2 e.to)) ?_
    refine Ol.p gti ?_
    refine Ol.p mvb ?_
    refine Ol.gp hc (ld one_map_int_int (Rd.inp hlt2 hb)) ?_
    refine Ol.gp hc (fdl fd_api_Edge_0) ?_
    refine Ol.gp hc (ld one_int (Rd.blk (i := 0) rfl rfl)) ?_
    refine Ol.gp hc (lkw mt_map_int_int hm2 h2 k2.1 (k2.2 e.src)) ?_
    refine Ol.gp hc gti ?_
    refine Ol.p (pkTb hc) ?_
    refine Ol.p asb ?_
    refine Ol.nil ?_
    refine Cd.ret ⟨.bool _, ret1 rfl rfl, [], .nil, ?_, rfl⟩
    have : 1 < cnt l1 e.to := by simp at hc; omega
    simp [this]
    omega
  | false =>
    refine Cd.region ?_
    refine Ol.p (ld one_map_int_int (Rd.inp hlt1 ha)) ?_
    refine Ol.p (fdl fd_api_Edge_2) ?_
    refine Ol.p (ld one_int (Rd.blk (i := 0) rfl rfl)) ?_
    refine Ol.p (lkw mt_map_int_int hm1 h1 k1.1 (k1.2 e.to)) ?_
    refine Ol.p gti ?_
    refine Ol.p mvb ?_
    refine Ol.gn hc ?_
    refine Ol.gn hc ?_
    refine Ol.gn hc ?_
    refine Ol.gn hc ?_
    refine Ol.gn hc ?_
    refine Ol.p (pkFb hc) ?_
    refine Ol.p asb ?_
    refine Ol.nil ?_
    refine Cd.ret ⟨.bool _, ret1 rfl rfl, [], .nil, ?_, rfl⟩
    have : ¬ 1 < cnt l1 e.to := by simp at hc; omega
    simp [this]
set_option maxHeartbeats 1000000 in
theorem flow_Critical_ct {w : World} {f : RFun} (hf : FunAt w w.heap.size f) (hfit : Fit f) : Ct Try.prog 60 #[f.val] w (NewL 85 3 (someE f.terms (critE f.terms)).length (edV (someE f.terms (critE f.terms)))) := by
  have hbl := hfit.blen
  have htl : f.terms.length = f.blocks.length := by simp [RFun.terms]
  have hel := edgesTo_len_le f.terms f.terms.length
  refine Ct.mk Try.func60 rfl rfl ?_
  refine Cd.seq ?_
  refine Cd.region ?_
  refine Ol.x bxg ?_
  rintro _ _ ⟨g1, rfl, rfl⟩
  refine Ol.p ass ?_
  refine Ol.nil ?_
  refine Cd.seq ?_
  refine Cd.region ?_
  refine Ol.x mkm ?_
  rintro _ _ ⟨g6, rfl, rfl⟩
  refine Ol.x mkm ?_
  rintro _ _ ⟨g7, rfl, rfl⟩
  refine Ol.x (alc zr_map_int_int) ?_
  rintro _ _ ⟨g3, rfl, rfl⟩
  refine Ol.x (alc zr_map_int_int) ?_
  rintro _ _ ⟨g4, rfl, rfl⟩
  refine Ol.s (stv sz_map_int_int (i := 1) rfl rfl) ?_
  refine Ol.s (stv sz_map_int_int (i := 0) rfl rfl) ?_
  refine Ol.nil ?_
  refine Cd.seq ?_
  refine Cd.seq ?_
  refine Cd.region ?_
  refine Ol.p (ldw ag_api_Func (i := 4) rfl rfl) ?_
  refine Ol.x (sp_call en_flow_each (fun M w' hh => flow_each_ct (f := f))) ?_
  rintro _ _ ⟨_, rfl, gE, rfl, rfl⟩
  refine Ol.nil ?_
  refine Cd.block ?_
  refine Cd.rf (Own := [blk gE (.cells f.cells.toArray 43)]) (L0 := [blk g4 (.cells #[.map (some g7)] 134), blk g3 (.cells #[.map (some g6)] 134), blk g7 (.map #[] 0), blk g6 (.map #[] 0), blk g1 (.cells f.cells.toArray 43)])
    (fun k L => ∃ es1 es2 c1 c2, L = [blk g4 (.cells #[.map (some g7)] 134), blk g3 (.cells #[.map (some g6)] 134), blk g7 (.map es2 c2), blk g6 (.map es1 c1), blk g1 (.cells f.cells.toArray 43)] ∧ Cnts es1.toList (((edges f.terms).take k).map Ed.to) ∧ Cnts es2.toList (((edges f.terms).take k).map Ed.src))
    (fun _ _ _ => False) (fun _ h => by cases h) en_flow_each_1 (flow_each_1_it hf hfit) (.refl _) ⟨#[], #[], 0, 0, rfl, Cnts.nil, Cnts.nil⟩ ysE_one rfl ?_ ?_ (fun _ _ _ h => h.elim)
  · rintro l H k vs Lj hk ⟨es1, es2, c1, c2, rfl, hk1, hk2⟩
    obtain ⟨e, he, rfl, hlt⟩ := ysE_get hk
    have hkb : k < 2 ^ 52 := by unfold edges at hlt; omega
    have n1 : cnt (((edges f.terms).take k).map Ed.to) e.to ≤ k := Nat.le_trans List.count_le_length (by simp; omega)
    have n2 : cnt (((edges f.terms).take k).map Ed.src) e.src ≤ k := Nat.le_trans List.count_le_length (by simp; omega)
    have s1 : ((edges f.terms).take (k + 1)).map Ed.to = ((edges f.terms).take k).map Ed.to ++ [e.to] := by rw [take_snoc_ he, List.map_append]; rfl
    have s2 : ((edges f.terms).take (k + 1)).map Ed.src = ((edges f.terms).take k).map Ed.src ++ [e.src] := by rw [take_snoc_ he, List.map_append]; rfl
    refine Cd.region ?_
    refine Ol.x (alc zr_api_Edge) ?_
    rintro _ _ ⟨g5, rfl, rfl⟩
    refine Ol.s (stw sz_api_Edge rfl e.one (i := 0) rfl rfl) ?_
    refine Ol.nil ?_
    intro H' r hr
    refine Cd.block ?_
    refine Cd.seq ?_
    refine Cd.region ?_
    refine Ol.p (ldv one_map_int_int (i := 2) rfl) ?_
    refine Ol.p (fdl fd_api_Edge_2) ?_
    refine Ol.p (ld one_int (Rd.blk (i := 0) rfl rfl)) ?_
    refine Ol.p (lkn mt_map_int_int (i := 4) rfl hk1.1 (hk1.2 e.to)) ?_
    refine Ol.p addi ?_
    refine Ol.x (upm (v := .int .i64 ((cnt (((edges f.terms).take k).map Ed.to) e.to : Int) + 1)) mt_map_int_int (i := 4) rfl hk1.1 rfl) ?_
    rintro _ _ ⟨es1', c1', rfl, ha1, hm1⟩
    refine Ol.nil ?_
    refine Cd.region ?_
    refine Ol.p (ldv one_map_int_int (i := 1) rfl) ?_
    refine Ol.p (fdl fd_api_Edge_0) ?_
    refine Ol.p (ld one_int (Rd.blk (i := 0) rfl rfl)) ?_
    refine Ol.p (lkn mt_map_int_int (i := 3) rfl hk2.1 (hk2.2 e.src)) ?_
    refine Ol.p addi ?_
    refine Ol.x (upm (v := .int .i64 ((cnt (((edges f.terms).take k).map Ed.src) e.src : Int) + 1)) mt_map_int_int (i := 3) rfl hk2.1 rfl) ?_
    rintro _ _ ⟨es2', c2', rfl, ha2, hm2⟩
    refine Ol.keep (.sub (.cons _ (List.Sublist.refl _))) ?_
    refine Ol.nil ?_
    refine ⟨es1', es2', c1', c2', rfl, ?_, ?_⟩
    · rw [s1]; exact hk1.snoc ha1 hm1
    · rw [s2]; exact hk2.snoc ha2 hm2
  · rintro L' ⟨es1, es2, c1, c2, rfl, hk1, hk2⟩
    rw [ysE_len, List.take_length] at hk1 hk2
    refine Cd.seq ?_
    refine Cd.region ?_
    refine Ol.p (ldw ag_api_Func (i := 4) rfl rfl) ?_
    refine Ol.p mkf ?_
    refine Ol.x (sp_call en_flow_some (fun M w' hh => flow_some_ct (g := 107) (fst := #[]) (cap := #[.pointer (some ⟨g3, 0, none⟩), .pointer (some ⟨g4, 0, none⟩)]) (p := critE f.terms) (hf.now hh) hfit ⟨en_flow_Critical_1, fun e he w2 h2 => flow_Critical_1_ct (Hp.keeps hh (i := 1) rfl rfl h2) (Hp.keeps hh (i := 0) rfl rfl h2) (Hp.keepsObj hh (i := 3) rfl h2).1 (Hp.keepsObj hh (i := 2) rfl h2).1 hk1 hk2⟩)) ?_
    rintro _ _ ⟨_, rfl, A, c, rfl, rfl⟩
    refine Ol.p ass ?_
    refine Ol.nil ?_
    refine Cd.ret ⟨.slice _ _ _, ret1 rfl rfl, _, .sub (.cons_cons _ (List.nil_sublist _)), A, c, rfl, rfl⟩
end
end Go.Proofs.Ytcojedoejpcolaa

/- Counts of edges, their order, unions of what is reached: plain laws. -/
namespace Go.Proofs.Ytcojedoejpcolaa
set_option linter.unusedVariables false
set_option maxRecDepth 10000
open Go Go.RowKit

theorem filter_len_split {α : Type} {l : List α} {p q r : α → Bool} (h : ∀ x ∈ l, r x = (p x || q x)) (hd : ∀ x ∈ l, (p x && q x) = false) : (l.filter r).length = (l.filter p).length + (l.filter q).length := by
  induction l with
  | nil => rfl
  | cons a l ih =>
    have ih := ih (fun x hx => h x (by simp [hx])) (fun x hx => hd x (by simp [hx]))
    have h1 := h a (by simp)
    have h2 := hd a (by simp)
    simp only [List.filter_cons, h1]
    cases hp : p a <;> cases hq : q a <;> simp [hp, hq] at h2 ⊢ <;> omega
theorem someE_len_split {ts : List Tm} {p q r : Ed → Bool} (h : ∀ x ∈ edges ts, r x = (p x || q x)) (hd : ∀ x ∈ edges ts, (p x && q x) = false) : (someE ts r).length = (someE ts p).length + (someE ts q).length := by
  unfold someE
  cases closed ts with
  | false => rfl
  | true => exact filter_len_split h hd
theorem src_range {ts : List Tm} {e : Ed} (he : e ∈ edges ts) : 0 ≤ e.src ∧ e.src < ts.length ∧ 0 ≤ e.arm ∧ e.arm < 2 := by
  obtain ⟨k, j, t, hk, hj, h1, h2⟩ := mem_edges.1 he
  have := (List.getElem?_eq_some_iff.1 hk).1
  have h3 := (List.getElem?_eq_some_iff.1 hj).1
  have := toL_len t
  omega
def outTo (ts : List Tm) (k : Nat) : Nat := (someE ts fun e => decide (e.src < (k : Int))).length
def inTo (ts : List Tm) (k : Nat) : Nat := (someE ts fun e => decide (e.to < (k : Int))).length
theorem outTo_zero (ts : List Tm) : outTo ts 0 = 0 := by
  unfold outTo someE
  cases hc : closed ts with
  | false => rfl
  | true =>
    rw [cond_true, List.length_eq_zero_iff, List.filter_eq_nil_iff]
    intro e he
    have := src_range he
    simp; omega
theorem inTo_zero (ts : List Tm) : inTo ts 0 = 0 := by
  unfold inTo someE
  cases hc : closed ts with
  | false => rfl
  | true =>
    rw [cond_true, List.length_eq_zero_iff, List.filter_eq_nil_iff]
    intro e he
    have := (closed_len hc).2.2 e he
    simp; omega
theorem outTo_succ (ts : List Tm) (k : Nat) : outTo ts (k + 1) = outTo ts k + (someE ts fun e => decide (e.src = (k : Int))).length :=
  someE_len_split (fun e he => by
    by_cases h1 : e.src < (k : Int) <;> by_cases h2 : e.src = (k : Int) <;> simp [h1, h2] <;> omega) (fun e he => by
    by_cases h1 : e.src < (k : Int) <;> by_cases h2 : e.src = (k : Int) <;> simp [h1, h2] <;> omega)
theorem inTo_succ (ts : List Tm) (k : Nat) : inTo ts (k + 1) = inTo ts k + (someE ts fun e => decide (e.to = (k : Int))).length :=
  someE_len_split (fun e he => by
    by_cases h1 : e.to < (k : Int) <;> by_cases h2 : e.to = (k : Int) <;> simp [h1, h2] <;> omega) (fun e he => by
    by_cases h1 : e.to < (k : Int) <;> by_cases h2 : e.to = (k : Int) <;> simp [h1, h2] <;> omega)
theorem outTo_all (ts : List Tm) : outTo ts ts.length = (someE ts fun _ => true).length := by
  unfold outTo someE
  cases hc : closed ts with
  | false => rfl
  | true =>
    rw [cond_true, cond_true]
    congr 1
    apply List.filter_congr
    intro e he
    have := src_range he
    simp; omega
theorem inTo_all (ts : List Tm) : inTo ts ts.length = (someE ts fun _ => true).length := by
  unfold inTo someE
  cases hc : closed ts with
  | false => rfl
  | true =>
    rw [cond_true, cond_true]
    congr 1
    apply List.filter_congr
    intro e he
    have := (closed_len hc).2.2 e he
    simp; omega
theorem someE_len_le (ts : List Tm) (p : Ed → Bool) : (someE ts p).length ≤ 400 := by
  unfold someE
  cases hc : closed ts with
  | false => simp
  | true =>
    rw [cond_true]
    have h1 := (closed_le hc).2
    have h2 := edgesTo_len_le ts ts.length
    have h3 := List.length_filter_le p (edges ts)
    unfold edges at h3 ⊢
    omega
theorem outTo_le (ts : List Tm) (k : Nat) : outTo ts k ≤ 400 := someE_len_le _ _
theorem inTo_le (ts : List Tm) (k : Nat) : inTo ts k ≤ 400 := someE_len_le _ _
theorem crit_iff {ts : List Tm} (hc : closed ts = true) (e : Ed) : critE ts e = (decide (1 < (someE ts fun x => decide (x.src = e.src)).length) && decide (1 < (someE ts fun x => decide (x.to = e.to)).length)) := by
  have key : ∀ (g : Ed → Int) (n : Int), cnt ((edges ts).map g) n = ((edges ts).filter fun x => decide (g x = n)).length := fun g n => by
    unfold cnt
    rw [List.count_eq_countP, List.countP_map, List.countP_eq_length_filter]
    congr 1
  unfold critE someE
  rw [key, key, hc, cond_true, cond_true, Bool.and_comm]
/-- The critical edges among the first ones. -/
def critTo (ts : List Tm) (k : Nat) : List Ed := ((someE ts fun _ => true).take k).filter (critE ts)
theorem critTo_le (ts : List Tm) (k : Nat) : (critTo ts k).length ≤ 400 := Nat.le_trans (List.length_filter_le _ _) (by
  rw [List.length_take]
  exact Nat.le_trans (Nat.min_le_right _ _) (someE_len_le _ _))
theorem critTo_all (ts : List Tm) : critTo ts (someE ts fun _ => true).length = someE ts (critE ts) := by
  unfold critTo
  rw [List.take_length]
  unfold someE
  cases hc : closed ts with
  | false => rfl
  | true => simp
theorem critTo_succ {ts : List Tm} {k : Nat} {e : Ed} (h : (someE ts fun _ => true)[k]? = some e) : critTo ts (k + 1) = critTo ts k ++ (if critE ts e = true then [e] else []) := by
  unfold critTo
  rw [take_snoc_ h, List.filter_append]
  congr 1
  by_cases hp : critE ts e = true <;> simp [hp]
theorem critTo_get {ts : List Tm} {k : Nat} {e : Ed} (h : (someE ts fun _ => true)[k]? = some e) (hc : critE ts e = true) : (someE ts (critE ts))[(critTo ts k).length]? = some e := by
  have h1 := critTo_succ h
  rw [if_pos hc] at h1
  have hk := (List.getElem?_eq_some_iff.1 h).1
  have hpre : critTo ts (someE ts fun _ => true).length = critTo ts (k + 1) ++ ((someE ts fun _ => true).drop (k + 1)).filter (critE ts) := by
    unfold critTo
    rw [List.take_length, ← List.filter_append, List.take_append_drop]
  rw [← critTo_all, hpre, h1, List.append_assoc, List.getElem?_append_right (Nat.le_refl _)]
  simp
theorem edgesTo_src {ts : List Tm} {k : Nat} {e : Ed} (h : e ∈ edgesTo ts k) : e.src < (k : Int) := by
  unfold edgesTo edgesB at h
  simp only [List.mem_flatMap, Prod.exists, List.mem_map, List.mem_zipIdx_iff_getElem?] at h
  obtain ⟨t, i, hi, n, j, hj, rfl⟩ := h
  have := (List.getElem?_eq_some_iff.1 hi).1
  simp at this ⊢
  omega
def EdLt (a b : Ed) : Prop := a.src < b.src ∨ (a.src = b.src ∧ a.arm < b.arm)
theorem edges_sorted (ts : List Tm) : (edges ts).Pairwise EdLt := by
  have key : ∀ k, k ≤ ts.length → (edgesTo ts k).Pairwise EdLt := by
    intro k
    induction k with
    | zero => intro _; simp [edgesTo]
    | succ k ih =>
      intro hk
      rw [edgesTo_succ (List.getElem?_eq_getElem (show k < ts.length by omega)), List.pairwise_append]
      refine ⟨ih (by omega), ?_, fun a ha b hb => .inl ?_⟩
      · rw [List.pairwise_iff_getElem]
        intro i j hi hj hij
        right
        simp [edgesB]
        omega
      · have h1 := edgesTo_src ha
        unfold edgesB at hb
        simp only [List.mem_map] at hb
        obtain ⟨x, _, rfl⟩ := hb
        exact h1
  exact key ts.length (Nat.le_refl _)
theorem edges_next {ts : List Tm} {k : Nat} {a b : Ed} (ha : (someE ts fun _ => true)[k]? = some a) (hb : (someE ts fun _ => true)[k + 1]? = some b) : EdLt a b := by
  have hs : (someE ts fun _ => true).Pairwise EdLt := by
    unfold someE
    cases closed ts with
    | false => exact .nil
    | true => rw [cond_true]; exact (edges_sorted ts).filter _
  obtain ⟨h1, rfl⟩ := List.getElem?_eq_some_iff.1 ha
  obtain ⟨h2, rfl⟩ := List.getElem?_eq_some_iff.1 hb
  exact List.pairwise_iff_getElem.1 hs k (k + 1) h1 h2 (by omega)
theorem edV_get {l : List Ed} {k : Nat} {e : Ed} (h : l[k]? = some e) {j : Nat} {u : Value} (hj : e.cells[j]? = some u) : (edV l)[k * 3 + j]? = some u := by
  have hl := (List.getElem?_eq_some_iff.1 hj).1
  unfold edV
  rw [flat_get Ed.len _ _ _ _ h hl]
  exact hj
theorem reached_none {ts : List Tm} {fr nt : List Int} (hc : closed ts = false) : reachedF ts fr nt = [] := by unfold reachedF; rw [hc]; rfl
theorem reached_union {ts : List Tm} {fr more : List Int} (i : Nat) : i ∈ reachedF ts (fr ++ more) [] ↔ i ∈ reachedF ts fr [] ∨ i ∈ reachedF ts more [] := by
  cases hc : closed ts with
  | false => simp [reached_none hc]
  | true =>
    rw [mem_reachedF hc, mem_reachedF hc, mem_reachedF hc]
    constructor
    · rintro ⟨a, h1, h2, h3⟩
      rcases List.mem_append.1 h2 with h2 | h2
      · exact .inl ⟨a, h1, h2, h3⟩
      · exact .inr ⟨a, h1, h2, h3⟩
    · rintro (⟨a, h1, h2, h3⟩ | ⟨a, h1, h2, h3⟩)
      · exact ⟨a, h1, by simp [h2], h3⟩
      · exact ⟨a, h1, by simp [h2], h3⟩
end Go.Proofs.Ytcojedoejpcolaa

/- The package split: the places of edges, walked. -/
namespace Go.Proofs.Ytcojedoejpcolaa
set_option linter.unusedVariables false
open Go Go.RowKit
set_option maxRecDepth 100000

def Ed.key (e : Ed) : List Int := [e.src, e.arm, e.to]
theorem Ed.key_val (e : Ed) : e.val = keyE e.key := rfl
theorem Ed.key_inj {a b : Ed} (h : a.key = b.key) : a = b := by
  cases a; cases b
  simp [Ed.key] at h
  obtain ⟨h1, h2, h3⟩ := h
  subst h1; subst h2; subst h3
  rfl
/-- An edge's place: its number in the list, from a number on. -/
def plc (l : List Ed) (fr : Nat) (m : List Int) : Option Value := (l.findIdx? fun e => decide (e.key = m)).map fun i => .int .i64 ((fr + i : Nat) : Int)
theorem plc_snoc {l : List Ed} {fr : Nat} {e : Ed} (h : e ∉ l) (m : List Int) : plc (l ++ [e]) fr m = if m = e.key then some (.int .i64 ((fr + l.length : Nat) : Int)) else plc l fr m := by
  unfold plc
  rw [List.findIdx?_append]
  by_cases hm : m = e.key
  · subst hm
    have hn : l.findIdx? (fun e' => decide (e'.key = e.key)) = none := by
      rw [List.findIdx?_eq_none_iff]
      intro x hx
      rw [decide_eq_false_iff_not]
      exact fun he => h (Ed.key_inj he ▸ hx)
    rw [hn]
    simp
  · have : decide (e.key = m) = false := by rw [decide_eq_false_iff_not]; exact fun h => hm h.symm
    simp [hm, this]
section
theorem me_split_places : MpE Try.prog 148 3 (.int .i64 0) := ⟨85, 3, mp_split_places, by kernel_rfl, zr_int⟩
set_option maxHeartbeats 1000000 in
theorem split_of_ct {w : World} {A : Option Addr} {c fr : Nat} {l : List Ed} (hl : Reads w w.heap.size 3 A l.length (edV l)) (hnd : l.Nodup) (hlen : l.length < 2 ^ 40) (hfr : fr < 2 ^ 40) :
    Ct Try.prog 100 #[.slice A l.length c, .int .i64 fr] w (fun v R => ∃ g es cl, v = .map (some g) ∧ R = [blk g (.map es cl)] ∧ AllE 3 es.toList ∧ ∀ m, egetE es.toList m = plc l fr m) := by
  refine Ct.mk Try.func100 rfl rfl ?_
  refine Cd.seq ?_
  refine Cd.region ?_
  refine Ol.p asm ?_
  refine Ol.nil ?_
  refine Cd.seq ?_
  refine Cd.region ?_
  refine Ol.x mkm ?_
  rintro _ _ ⟨gM, rfl, rfl⟩
  refine Ol.p asm ?_
  refine Ol.nil ?_
  refine Cd.seq ?_
  refine Cd.seq ?_
  refine Cd.region ?_
  refine Ol.p mvs ?_
  refine Ol.p (lens sl_L_api_Edge) ?_
  refine Ol.p mvi ?_
  refine Ol.nil ?_
  refine Cd.block ?_
  refine Cd.loop (fun m σ L => ∃ (k : Nat) (es : Array MapEntry) (cl : Nat), m = l.length - k ∧ k ≤ l.length ∧ AllE 3 es.toList ∧ (∀ m, egetE es.toList m = plc (l.take k) fr m) ∧ Has σ [(1, .int .i64 fr), (5, .map (some gM)), (9, .slice A l.length c), (10, .int .i64 l.length), (11, .int .i64 k)] ∧ [blk gM (.map es cl)] = L) (n := l.length) ⟨0, #[], 0, rfl, Nat.zero_le _, fun e he => by simp at he, fun m => by simp [egetE, plc], ⟨rfl, rfl, rfl, rfl, rfl, trivial⟩, rfl⟩ ?_
  rintro _ σ L ⟨k, es, cl, rfl, hk, hall, hget, hs, rfl⟩
  refine Cd.has hs ?_
  clear hs
  refine Cd.seq ?_
  refine Cd.region ?_
  refine Ol.p lsi ?_
  refine Ol.nil ?_
  refine Cd.seq ?_
  refine Cd.cond rfl (fun h => ?_) (fun h => ?_)
  · have hlt : k < l.length := by
      simp only [decide_eq_true_eq] at h; omega
    obtain ⟨e, he⟩ : ∃ e, l[k]? = some e := ⟨_, List.getElem?_eq_getElem hlt⟩
    have hno : e ∉ l.take k := by
      intro hm
      obtain ⟨j, hj⟩ := List.mem_iff_getElem?.1 hm
      rw [List.getElem?_take] at hj
      split at hj
      · rename_i hjk
        have h1 := List.pairwise_iff_getElem.1 hnd j k (by omega) hlt hjk
        rw [List.getElem?_eq_getElem (by omega)] at hj
        rw [List.getElem?_eq_getElem hlt] at he
        exact h1 ((Option.some.inj hj).trans (Option.some.inj he).symm)
      · cases hj
    have hnone : egetE es.toList e.key = none := by
      rw [hget]
      unfold plc
      rw [Option.map_eq_none_iff, List.findIdx?_eq_none_iff]
      intro x hx
      rw [decide_eq_false_iff_not]
      exact fun h' => hno (Ed.key_inj h' ▸ hx)
    refine Cd.skip ?_
    refine Cd.seq ?_
    refine Cd.block ?_
    refine Cd.seq ?_
    refine Cd.region ?_
    refine Ol.p mvi ?_
    refine Ol.p (ixn (ix := k) sl_L_api_Edge (Som.slc hl (by omega))) ?_
    refine Ol.p (lds (es := e.cells) ag_api_Edge hl rfl (fun j u hu => edV_get he hu)) ?_
    refine Ol.x (alc zr_api_Edge) ?_
    rintro _ _ ⟨g7, rfl, rfl⟩
    refine Ol.p asi ?_
    refine Ol.s (stw (vs := e.cells.toArray) sz_api_Edge rfl (by intro u hu; simp [Ed.cells] at hu; rcases hu with rfl | rfl | rfl <;> rfl) (i := 0) rfl rfl) ?_
    refine Ol.nil ?_
    refine Cd.region ?_
    refine Ol.p mvm ?_
    refine Ol.p (ldw (cs := e.cells.toArray) ag_api_Edge (i := 0) rfl rfl) ?_
    refine Ol.p mvi ?_
    refine Ol.p mvi ?_
    refine Ol.p addi ?_
    refine Ol.x (upE (v := .int .i64 ((fr + k : Nat) : Int)) (k := e.key) me_split_places rfl (i := 1) rfl hall hnone rfl) ?_
    rintro _ _ ⟨es', cl', rfl, hall', hget'⟩
    refine Ol.keep (.sub (.cons _ (List.Sublist.refl _))) ?_
    refine Ol.nil ?_
    refine Cd.region ?_
    refine Ol.p addi ?_
    refine Ol.p mvi ?_
    refine Ol.nil ?_
    refine ⟨l.length - (k + 1), by omega, k + 1, es', cl', rfl, by omega, hall', fun m => ?_, ⟨rfl, rfl, rfl, rfl, rfl, trivial⟩, rfl⟩
    rw [hget', hget, take_snoc_ he, plc_snoc hno, List.length_take, Nat.min_eq_left hk]
  have hke : k = l.length := by
    simp only [decide_eq_false_iff_not] at h; omega
  refine Cd.exit (id := 0) ?_
  refine Cd.seq ?_
  refine Cd.region ?_
  refine Ol.p mvm ?_
  refine Ol.p asm ?_
  refine Ol.nil ?_
  refine Cd.ret ⟨.map (some gM), ret1 rfl rfl, _, .all, gM, es, cl, rfl, rfl, hall, fun m => ?_⟩
  rw [hget, hke, List.take_of_length_le (Nat.le_refl _)]
end
/-- Where an edge goes that is told its place. -/
def doF (l : List Ed) (fr : Nat) (e : Ed) : Int := match l.findIdx? fun e' => decide (e'.key = e.key) with
  | some i => ((fr + i : Nat) : Int)
  | none => e.to
section
theorem split_Do_1_cm {w0 : World} {B gc gM fr cl : Nat} {es : Array MapEntry} {l : List Ed} {e : Ed} (ha : AllE 3 es.toList) (hg : ∀ m, egetE es.toList m = plc l fr m) :
    Cm Try.prog 102 #[e.val, .pointer (some ⟨gc, 0, none⟩)] w0 B [blk gc (.cells #[.map (some gM)] 148), blk gM (.map es cl)] (fun v L => v = .int .i64 (doF l fr e) ∧ L = [blk gc (.cells #[.map (some gM)] 148), blk gM (.map es cl)]) := by
  refine Cm.mk Try.func102 rfl rfl fun M => ?_
  refine Cd.seq ?_
  refine Cd.region ?_
  refine Ol.x bxg ?_
  rintro _ _ ⟨g2, rfl, rfl⟩
  refine Ol.p asi ?_
  refine Ol.nil ?_
  refine Cd.seq ?_
  refine Cd.seq ?_
  cases hi : l.findIdx? (fun e' => decide (e'.key = e.key)) with
  | some i =>
    have hp : egetE es.toList e.key = some (.int .i64 ((fr + i : Nat) : Int)) := by rw [hg]; unfold plc; rw [hi]; rfl
    have hd : doF l fr e = ((fr + i : Nat) : Int) := by unfold doF; rw [hi]
    have hv : Value.tuple #[(egetE es.toList e.key).getD (.int .i64 0), .bool (egetE es.toList e.key).isSome] = .tuple #[.int .i64 ((fr + i : Nat) : Int), .bool true] := by rw [hp]; rfl
    rw [hd]
    refine Cd.region ?_
    refine Ol.p (ld (v := .map (some gM)) one_split_places (Rd.blk (i := 1) rfl rfl)) ?_
    refine Ol.p (ldw (cs := e.cells.toArray) ag_api_Edge (i := 0) rfl rfl) ?_
    refine Ol.p (hv ▸ lkcE me_split_places (k := e.key) rfl (i := 2) rfl ha) ?_
    refine Ol.p mvt ?_
    refine Ol.p extv ?_
    refine Ol.p extv ?_
    refine Ol.p asi ?_
    refine Ol.p asb ?_
    refine Ol.nil ?_
    refine Cd.seq ?_
    refine Cd.region ?_
    refine Ol.p mvb ?_
    refine Ol.nil ?_
    refine Cd.cond rfl (fun h => ?_) (fun h => nomatch h)
    refine Cd.seq ?_
    refine Cd.region ?_
    refine Ol.p mvi ?_
    refine Ol.p asi ?_
    refine Ol.nil ?_
    exact Cd.ret ⟨.int .i64 ((fr + i : Nat) : Int), ret1 rfl rfl, _, .sub (.cons _ (List.Sublist.refl _)), rfl, rfl⟩
  | none =>
    have hp : egetE es.toList e.key = none := by rw [hg]; unfold plc; rw [hi]; rfl
    have hd : doF l fr e = e.to := by unfold doF; rw [hi]
    have hv : Value.tuple #[(egetE es.toList e.key).getD (.int .i64 0), .bool (egetE es.toList e.key).isSome] = .tuple #[.int .i64 0, .bool false] := by rw [hp]; rfl
    rw [hd]
    refine Cd.region ?_
    refine Ol.p (ld (v := .map (some gM)) one_split_places (Rd.blk (i := 1) rfl rfl)) ?_
    refine Ol.p (ldw (cs := e.cells.toArray) ag_api_Edge (i := 0) rfl rfl) ?_
    refine Ol.p (hv ▸ lkcE me_split_places (k := e.key) rfl (i := 2) rfl ha) ?_
    refine Ol.p mvt ?_
    refine Ol.p extv ?_
    refine Ol.p extv ?_
    refine Ol.p asi ?_
    refine Ol.p asb ?_
    refine Ol.nil ?_
    refine Cd.seq ?_
    refine Cd.region ?_
    refine Ol.p mvb ?_
    refine Ol.nil ?_
    refine Cd.cond rfl (fun h => nomatch h) (fun h => ?_)
    refine Cd.skip ?_
    refine Cd.seq ?_
    refine Cd.region ?_
    refine Ol.p (fdl fd_api_Edge_2) ?_
    refine Ol.p (ld (v := .int .i64 e.to) one_int (Rd.blk (i := 0) rfl rfl)) ?_
    refine Ol.p asi ?_
    refine Ol.nil ?_
    exact Cd.ret ⟨.int .i64 e.to, ret1 rfl rfl, _, .sub (.cons _ (List.Sublist.refl _)), rfl, rfl⟩
end
section
def splitWhole (ts : List Tm) : Bool := closed ts && decide ((someE ts (critE ts)).length = 0)
theorem split_Whole_ct {w : World} {f : RFun} (hf : FunAt w w.heap.size f) (hfit : Fit f) : Ct Try.prog 57 #[f.val] w (Is (.bool (splitWhole f.terms))) := by
  refine Ct.mk Try.func57 rfl rfl ?_
  refine Cd.seq ?_
  refine Cd.region ?_
  refine Ol.x bxg ?_
  rintro _ _ ⟨g1, rfl, rfl⟩
  refine Ol.p asb ?_
  refine Ol.nil ?_
  refine Cd.seq ?_
  cases h : closed f.terms with
  | true =>
    refine Cd.region ?_
    refine Ol.p (ldw (cs := f.cells.toArray) ag_api_Func (i := 0) rfl rfl) ?_
    refine Ol.s (cl en_flow_Closed (fun M w' hh => flow_Closed_ct (hf.now hh) hfit)) ?_
    refine Ol.p mvb ?_
    refine Ol.gp h (ldw (cs := f.cells.toArray) ag_api_Func (i := 0) rfl rfl) ?_
    refine Ol.gx h (sp_call en_flow_Critical (fun M w' hh => flow_Critical_ct (hf.now hh) hfit)) ?_
    rintro _ _ ⟨_, rfl, A7, c7, rfl, rfl⟩
    refine Ol.gp h (lens sl_L_api_Edge) ?_
    refine Ol.gp h eqi ?_
    refine Ol.p (pkTb h) ?_
    refine Ol.p asb ?_
    refine Ol.nil ?_
    refine Cd.ret ⟨.bool _, ret1 rfl rfl, [], Keep.nil, congrArg Value.bool ?_, rfl⟩
    unfold splitWhole
    rw [h, Bool.true_and, decide_eq_decide]
    omega
  | false =>
    refine Cd.region ?_
    refine Ol.p (ldw (cs := f.cells.toArray) ag_api_Func (i := 0) rfl rfl) ?_
    refine Ol.s (cl en_flow_Closed (fun M w' hh => flow_Closed_ct (hf.now hh) hfit)) ?_
    refine Ol.p mvb ?_
    refine Ol.gn h ?_
    refine Ol.gn h ?_
    refine Ol.gn h ?_
    refine Ol.gn h ?_
    refine Ol.p (pkFb h) ?_
    refine Ol.p asb ?_
    refine Ol.nil ?_
    refine Cd.ret ⟨.bool _, ret1 rfl rfl, [], Keep.nil, congrArg Value.bool ?_, rfl⟩
    unfold splitWhole
    rw [h]; rfl
end
end Go.Proofs.Ytcojedoejpcolaa

/- The package split: edges are turned, walked. -/
namespace Go.Proofs.Ytcojedoejpcolaa
set_option linter.unusedVariables false
open Go Go.RowKit
set_option maxRecDepth 100000

def setArm (t : Tm) (j : Nat) (n : Int) : Tm := if j = 0 then { t with t0 := n } else { t with t1 := n }
def turnB (y : RBlk) (j : Nat) (n : Int) : RBlk := { y with term := setArm y.term j n }
def turnE (g : RFun) (e : Ed) (n : Int) : RFun := match g.blocks[e.src.toNat]? with
  | some y => g.with (g.blocks.set e.src.toNat (turnB y e.arm.toNat n))
  | none => g
def turnL (g : RFun) (l : List Ed) (tof : Ed → Int) : RFun := l.foldl (fun g e => turnE g e (tof e)) g
theorem turnL_snoc (g : RFun) (l : List Ed) (tof : Ed → Int) (e : Ed) : turnL g (l ++ [e]) tof = turnE (turnL g l tof) e (tof e) := by
  unfold turnL
  rw [List.foldl_append]
  rfl
theorem turnE_cells (g : RFun) (e : Ed) (n : Int) : (turnE g e n).cells = g.cells ∧ (turnE g e n).blocks.length = g.blocks.length ∧ (turnE g e n).bA = g.bA ∧ (turnE g e n).bC = g.bC := by
  unfold turnE
  split
  · unfold RFun.with RFun.cells
    simp
  · exact ⟨rfl, rfl, rfl, rfl⟩
theorem turnL_cells (g : RFun) (tof : Ed → Int) : ∀ (l : List Ed), (turnL g l tof).cells = g.cells ∧ (turnL g l tof).blocks.length = g.blocks.length ∧ (turnL g l tof).bA = g.bA ∧ (turnL g l tof).bC = g.bC := by
  intro l
  unfold turnL
  induction l generalizing g with
  | nil => exact ⟨rfl, rfl, rfl, rfl⟩
  | cons e l ih =>
    have h := turnE_cells g e (tof e)
    have h2 := ih (turnE g e (tof e))
    exact ⟨h2.1.trans h.1, h2.2.1.trans h.2.1, h2.2.2.1.trans h.2.2.1, h2.2.2.2.trans h.2.2.2⟩
theorem turnB_cells {y : RBlk} {j : Nat} {n : Int} (hj : j < 2) : (turnB y j n).cells = y.cells.set (3 + j) (.int .i64 n) := by
  have : j = 0 ∨ j = 1 := by omega
  rcases this with rfl | rfl <;> rfl
theorem turnB_res (y : RBlk) (j : Nat) (n : Int) : blkRes (turnB y j n) = blkRes y := rfl
section
set_option maxHeartbeats 4000000 in
theorem split_turn_cm {w0 : World} {B gf : Nat} {g : RFun} {fn : FuncId} {cap : Array Value} {Rc : List Res} {tof : Ed → Int} (hfit : FitC g) (hen : Ent Try.prog fn)
    (hc : ∀ e ∈ someE g.terms (fun _ => true), Cm Try.prog fn (#[] ++ [e.val].toArray ++ cap) w0 B Rc (fun v L => v = .int .i64 (tof e) ∧ L = Rc)) :
    Cm Try.prog 101 #[.pointer (some ⟨gf, 0, none⟩), .func (.func fn) #[] cap] w0 B (blk gf (.cells g.cells.toArray 43) :: (funRes g ++ Rc))
      (fun v L => v = .tuple #[] ∧ L = blk gf (.cells g.cells.toArray 43) :: (funRes (turnL g (someE g.terms fun _ => true) tof) ++ Rc)) := by
  have hel := someE_len_le g.terms (fun _ => true)
  have hbl := hfit.blen
  obtain ⟨l, hl⟩ : ∃ l, l = someE g.terms (fun _ => true) := ⟨_, rfl⟩
  rw [← hl] at hc hel ⊢
  have hmem : ∀ e ∈ l, ∃ (k j : Nat), e.src = (k : Int) ∧ e.arm = (j : Int) ∧ k < g.blocks.length ∧ j < 2 := by
    intro e he
    rw [hl] at he
    have he2 : e ∈ edges g.terms := by
      unfold someE at he
      cases hcl : closed g.terms with
      | true => rw [hcl] at he; exact (List.mem_filter.1 he).1
      | false => rw [hcl] at he; cases he
    obtain ⟨k, j, t, h1, h2, h3, h4⟩ := mem_edges.1 he2
    refine ⟨k, j, h3, h4, ?_, ?_⟩
    · have := (List.getElem?_eq_some_iff.1 h1).1
      simpa [RFun.terms] using this
    · have := (List.getElem?_eq_some_iff.1 h2).1
      have h5 := toL_len t
      omega
  refine Cm.mk Try.func101 rfl rfl fun M => ?_
  refine Cd.seq ?_
  refine Cd.region ?_
  refine Ol.p mvp ?_
  refine Ol.p nlc ?_
  refine Ol.p (ldw (cs := g.cells.toArray) ag_api_Func (i := 0) rfl rfl) ?_
  refine Ol.x (sp_call (vs := [g.val]) (R := NewL 85 3 l.length (edV l)) en_flow_Edges (fun M w' hh => hl ▸ flow_Edges_ct (FunAt.own hh (fun r hr => List.mem_cons_of_mem _ (List.mem_append_left _ hr))) (hfit.fit hh (fun r hr => List.mem_cons_of_mem _ (List.mem_append_left _ hr))))) ?_
  rintro _ _ ⟨_, rfl, A9, c9, rfl, rfl⟩
  refine Ol.p (lens sl_L_api_Edge) ?_
  refine Ol.p mvi ?_
  refine Ol.nil ?_
  refine Cd.block ?_   -- 0
  refine Cd.loop (fun m σ L => ∃ k, m = l.length - k ∧ k ≤ l.length ∧ Has σ [(0, .pointer (some ⟨gf, 0, none⟩)), (1, .func (.func fn) #[] cap), (9, .slice A9 l.length c9), (10, .int .i64 l.length), (11, .int .i64 k)] ∧ row (.slice A9 l.length c9) 85 3 l.length (edV l) :: blk gf (.cells g.cells.toArray 43) :: (funRes (turnL g (l.take k) tof) ++ Rc) = L) (n := l.length) ⟨0, rfl, Nat.zero_le _, ⟨rfl, rfl, rfl, rfl, rfl, trivial⟩, rfl⟩ ?_
  rintro _ σ L ⟨k, rfl, hk, hs, rfl⟩
  refine Cd.has hs ?_
  clear hs
  refine Cd.seq ?_
  refine Cd.region ?_
  refine Ol.p lsi ?_
  refine Ol.nil ?_
  refine Cd.seq ?_
  refine Cd.cond rfl (fun h => ?_) (fun h => ?_)   -- $12
  · have hlt : k < l.length := by
      simp only [decide_eq_true_eq] at h; omega
    obtain ⟨e, he⟩ : ∃ e, l[k]? = some e := ⟨_, List.getElem?_eq_getElem hlt⟩
    have hem := List.mem_of_getElem? he
    obtain ⟨b, j, hb1, hj1, hb2, hj2⟩ := hmem e hem
    obtain ⟨gk, hgk⟩ : ∃ gk, gk = turnL g (l.take k) tof := ⟨_, rfl⟩
    obtain ⟨hk1, hk2, hk3, hk4⟩ := turnL_cells g tof (l.take k)
    rw [← hgk] at hk1 hk2 hk3 hk4 ⊢
    obtain ⟨y, hy⟩ : ∃ y, gk.blocks[b]? = some y := ⟨_, List.getElem?_eq_getElem (by omega)⟩
    refine Cd.skip ?_
    refine Cd.seq ?_
    refine Cd.block ?_   -- 1
    refine Cd.seq ?_
    refine Cd.region ?_
    refine Ol.p (ixn (ix := k) sl_L_api_Edge (Som.row (i := 0) rfl (by omega))) ?_
    refine Ol.p (ldr (es := e.cells) ag_api_Edge (i := 0) rfl rfl (fun j u hu => edV_get he hu)) ?_
    refine Ol.x (alc zr_api_Edge) ?_
    rintro _ _ ⟨g5, rfl, rfl⟩
    refine Ol.s (stw (vs := e.cells.toArray) sz_api_Edge rfl (by intro u hu; simp [Ed.cells] at hu; rcases hu with rfl | rfl | rfl <;> rfl) (i := 0) rfl rfl) ?_
    refine Ol.nil ?_
    have hcell : (gk.blocks.flatMap RBlk.cells).length = gk.blocks.length * 5 := by
      have : ∀ l : List RBlk, (l.flatMap RBlk.cells).length = l.length * 5 := fun l => by
        induction l with
        | nil => rfl
        | cons a l ih => rw [List.flatMap_cons, List.length_append, ih, RBlk.len, List.length_cons]; omega
      exact this _
    have hrow : blkRow gk = row (.slice g.bA g.blocks.length g.bC) 50 5 g.blocks.length (gk.blocks.flatMap RBlk.cells) := by
      unfold blkRow
      rw [hk2, hk3, hk4]
    have hset : (funRes gk).set 1 (row (.slice g.bA g.blocks.length g.bC) 50 5 g.blocks.length ((gk.blocks.flatMap RBlk.cells).set (b * 5 + 1 + 2 + j * 1) (.int .i64 (tof e)))) = funRes (turnE gk e (tof e)) := by
      have e1 : (gk.blocks.flatMap RBlk.cells).set (b * 5 + 1 + 2 + j * 1) (.int .i64 (tof e)) = (gk.blocks.set b (turnB y j (tof e))).flatMap RBlk.cells := by
        rw [show b * 5 + 1 + 2 + j * 1 = b * 5 + (3 + j) by omega]
        exact flat_set_at RBlk.len (by omega) (turnB_cells hj2) hy
      have e2 : turnE gk e (tof e) = gk.with (gk.blocks.set b (turnB y j (tof e))) := by
        unfold turnE
        rw [hb1, hj1, Int.toNat_natCast, Int.toNat_natCast, hy]
      rw [e1, e2, ← own_blk hy (turnB_res y j (tof e)), hk2, hk3, hk4]
    refine Cd.drawT (L0 := (blk g5 (.cells e.cells.toArray 85) :: row (.slice A9 l.length c9) 85 3 l.length (edV l) :: blk gf (.cells g.cells.toArray 43) :: funRes gk)) mixed 14 (fun opNo => match opNo with | 10 => some (fun v T => v = .int .i64 (tof e) ∧ T = Rc) | 1000 => some ((fun v R => v = undef ∧ R = Rc)) | _ => none) (fun opNo => match opNo with | 10 => [1000] | _ => []) (fun opNo => match opNo with | 10 => some 1000 | _ => none) [1000] (fun tokNo => match tokNo with | 1000 => Rc | _ => []) (by kernel_rfl) (perm_count fun _ x => by simp only [List.set_cons_zero, List.flatMap_cons, List.flatMap_nil, List.count_append, List.count_cons, List.count_nil]; omega) (by intro c hc; simp only [List.mem_cons, List.not_mem_nil, or_false] at hc; rcases hc with rfl <;> rfl) (by intro q V h; split at h <;> cases h; exact ⟨_, _, rfl, rfl⟩; exact ⟨_, _, rfl, rfl⟩) (fun u hu hu0 => ?_)
    refine WkT.p mvp ?_
    refine WkT.p nlc ?_
    refine WkT.p (fdl fd_api_Func_1) ?_
    refine WkT.p (ld (v := .slice g.bA g.blocks.length g.bC) one_L_api_Block (Rd.blk (i := 2) rfl rfl)) ?_
    refine WkT.p (fdl fd_api_Edge_0) ?_
    refine WkT.p (ld (v := .int .i64 e.src) one_int (Rd.blk (i := 0) rfl rfl)) ?_
    refine WkT.p (fdl fd_api_Edge_1) ?_
    refine WkT.p (ld (v := .int .i64 e.arm) one_int (Rd.blk (i := 0) rfl rfl)) ?_
    refine WkT.p mvf ?_
    refine WkT.p (ldw (cs := e.cells.toArray) ag_api_Edge (i := 0) rfl rfl) ?_
    refine WkT.xn (V := fun v T => v = .int .i64 (tof e) ∧ T = Rc) (l := [1000]) (l2 := []) hu rfl rfl rfl (by rw [needs_cons (hu0 1000 (by simp)), needs_none]; exact (sp_callvm (fst := #[]) (vs := [e.val]) (cap := cap) (Lin := Rc) (L2 := (blk g5 (.cells e.cells.toArray 85) :: row (.slice A9 l.length c9) 85 3 l.length (edV l) :: blk gf (.cells g.cells.toArray 43) :: funRes gk)) (R := fun v L => v = .int .i64 (tof e) ∧ L = Rc) hen (.refl _) (hc e hem) rfl rfl)) ?_
    rintro _ T10 hu10 ⟨rfl, hT10⟩; rw [hT10] at hu10; clear hT10 T10
    refine WkT.p (ixn (ix := b) sl_L_api_Block (Som.row (i := 4) (congrArg some hrow) (by omega)) (hy := congrArg (Value.int .i64) hb1)) ?_
    refine WkT.p (fdp fd_api_Block_1) ?_
    refine WkT.p (fdp fd_api_Term_2) ?_
    refine WkT.nil ?_
    change Ol _ _ _ _ _ (needs u [10] _)
    rw [needs_cons hu10, needs_none]
    refine Ol.keep (L' := (blk g5 (.cells e.cells.toArray 85) :: row (.slice A9 l.length c9) 85 3 l.length (edV l) :: blk gf (.cells g.cells.toArray 43) :: funRes gk) ++ Rc) Keep.comm ?_
    refine Ol.p (ixp (ix := j) (off := b * 5 + 1 + 2) ar_A2_int (hy := congrArg (Value.int .i64) hj1)) ?_
    refine Ol.s (str (v := .int .i64 (tof e)) (i := 4) (k := b * 5 + 1 + 2 + j * 1) (A := g.bA) (xs := gk.blocks.flatMap RBlk.cells) sz_int rfl rfl (congrArg some hrow) (by rw [hcell, hk2]; omega) rfl) ?_
    refine Ol.keep (show Keep (blk g5 (.cells e.cells.toArray 85) :: row (.slice A9 l.length c9) 85 3 l.length (edV l) :: blk gf (.cells g.cells.toArray 43) :: ((funRes gk).set 1 (row (.slice g.bA g.blocks.length g.bC) 50 5 g.blocks.length ((gk.blocks.flatMap RBlk.cells).set (b * 5 + 1 + 2 + j * 1) (.int .i64 (tof e)))) ++ Rc)) (row (.slice A9 l.length c9) 85 3 l.length (edV l) :: blk gf (.cells g.cells.toArray 43) :: (funRes (turnE gk e (tof e)) ++ Rc)) from by rw [hset]; exact .sub (.cons _ (List.Sublist.refl _))) ?_
    refine Ol.nil ?_
    refine Cd.region ?_
    refine Ol.p addi ?_
    refine Ol.p mvi ?_
    refine Ol.nil ?_
    refine ⟨l.length - (k + 1), by omega, k + 1, rfl, by omega, ⟨rfl, rfl, rfl, rfl, rfl, trivial⟩, ?_⟩
    rw [take_snoc_ he, turnL_snoc, ← hgk]
  have hke : k = l.length := by
    simp only [decide_eq_false_iff_not] at h; omega
  refine Cd.exit (id := 0) ⟨_, ret0 rfl, _, .sub (.cons _ (List.Sublist.refl _)), rfl, by rw [hke, List.take_of_length_le (Nat.le_refl _)]⟩
end
end Go.Proofs.Ytcojedoejpcolaa

