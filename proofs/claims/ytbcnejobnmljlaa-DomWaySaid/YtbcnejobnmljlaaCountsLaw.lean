/- Counts of edges, their order, unions of what is reached: plain laws. -/
import Derived.Test.YtbcnejobnmljlaaFlowLaw
import Derived.Test.YtbcnejobnmljlaaFlow2
namespace Go.Proofs.Ytbcnejobnmljlaa
set_option linter.unusedVariables false
set_option maxRecDepth 10000
open Go Go.RowKit

theorem filter_len_split {α : Type} {l : List α} {p q r : α → Bool} (h : ∀ x ∈ l, r x = (p x || q x)) (hd : ∀ x ∈ l, (p x && q x) = false) : (l.filter r).length = (l.filter p).length + (l.filter q).length := by
  induction l with
  | nil => rfl
  | cons a l ih =>
    have ih := ih (fun x hx => h x (by simp [hx])) (fun x hx => hd x (by simp [hx]))
    have h1 := h a (by simp)
    have h2 := hd a (by simp)
    simp only [List.filter_cons, h1]
    cases hp : p a <;> cases hq : q a <;> simp [hp, hq] at h2 ⊢ <;> omega
theorem someE_len_split {ts : List Tm} {p q r : Ed → Bool} (h : ∀ x ∈ edges ts, r x = (p x || q x)) (hd : ∀ x ∈ edges ts, (p x && q x) = false) : (someE ts r).length = (someE ts p).length + (someE ts q).length := by
  unfold someE
  cases closed ts with
  | false => rfl
  | true => exact filter_len_split h hd
theorem src_range {ts : List Tm} {e : Ed} (he : e ∈ edges ts) : 0 ≤ e.src ∧ e.src < ts.length ∧ 0 ≤ e.arm ∧ e.arm < 2 := by
  obtain ⟨k, j, t, hk, hj, h1, h2⟩ := mem_edges.1 he
  have := (List.getElem?_eq_some_iff.1 hk).1
  have h3 := (List.getElem?_eq_some_iff.1 hj).1
  have := toL_len t
  omega
def outTo (ts : List Tm) (k : Nat) : Nat := (someE ts fun e => decide (e.src < (k : Int))).length
def inTo (ts : List Tm) (k : Nat) : Nat := (someE ts fun e => decide (e.to < (k : Int))).length
theorem outTo_zero (ts : List Tm) : outTo ts 0 = 0 := by
  unfold outTo someE
  cases hc : closed ts with
  | false => rfl
  | true =>
    rw [cond_true, List.length_eq_zero_iff, List.filter_eq_nil_iff]
    intro e he
    have := src_range he
    simp; omega
theorem inTo_zero (ts : List Tm) : inTo ts 0 = 0 := by
  unfold inTo someE
  cases hc : closed ts with
  | false => rfl
  | true =>
    rw [cond_true, List.length_eq_zero_iff, List.filter_eq_nil_iff]
    intro e he
    have := (closed_len hc).2.2 e he
    simp; omega
theorem outTo_succ (ts : List Tm) (k : Nat) : outTo ts (k + 1) = outTo ts k + (someE ts fun e => decide (e.src = (k : Int))).length :=
  someE_len_split (fun e he => by
    by_cases h1 : e.src < (k : Int) <;> by_cases h2 : e.src = (k : Int) <;> simp [h1, h2] <;> omega) (fun e he => by
    by_cases h1 : e.src < (k : Int) <;> by_cases h2 : e.src = (k : Int) <;> simp [h1, h2] <;> omega)
theorem inTo_succ (ts : List Tm) (k : Nat) : inTo ts (k + 1) = inTo ts k + (someE ts fun e => decide (e.to = (k : Int))).length :=
  someE_len_split (fun e he => by
    by_cases h1 : e.to < (k : Int) <;> by_cases h2 : e.to = (k : Int) <;> simp [h1, h2] <;> omega) (fun e he => by
    by_cases h1 : e.to < (k : Int) <;> by_cases h2 : e.to = (k : Int) <;> simp [h1, h2] <;> omega)
theorem outTo_all (ts : List Tm) : outTo ts ts.length = (someE ts fun _ => true).length := by
  unfold outTo someE
  cases hc : closed ts with
  | false => rfl
  | true =>
    rw [cond_true, cond_true]
    congr 1
    apply List.filter_congr
    intro e he
    have := src_range he
    simp; omega
theorem inTo_all (ts : List Tm) : inTo ts ts.length = (someE ts fun _ => true).length := by
  unfold inTo someE
  cases hc : closed ts with
  | false => rfl
  | true =>
    rw [cond_true, cond_true]
    congr 1
    apply List.filter_congr
    intro e he
    have := (closed_len hc).2.2 e he
    simp; omega
theorem someE_len_le (ts : List Tm) (p : Ed → Bool) : (someE ts p).length ≤ 400 := by
  unfold someE
  cases hc : closed ts with
  | false => simp
  | true =>
    rw [cond_true]
    have h1 := (closed_le hc).2
    have h2 := edgesTo_len_le ts ts.length
    have h3 := List.length_filter_le p (edges ts)
    unfold edges at h3 ⊢
    omega
theorem outTo_le (ts : List Tm) (k : Nat) : outTo ts k ≤ 400 := someE_len_le _ _
theorem inTo_le (ts : List Tm) (k : Nat) : inTo ts k ≤ 400 := someE_len_le _ _
theorem crit_iff {ts : List Tm} (hc : closed ts = true) (e : Ed) : critE ts e = (decide (1 < (someE ts fun x => decide (x.src = e.src)).length) && decide (1 < (someE ts fun x => decide (x.to = e.to)).length)) := by
  have key : ∀ (g : Ed → Int) (n : Int), cnt ((edges ts).map g) n = ((edges ts).filter fun x => decide (g x = n)).length := fun g n => by
    unfold cnt
    rw [List.count_eq_countP, List.countP_map, List.countP_eq_length_filter]
    congr 1
  unfold critE someE
  rw [key, key, hc, cond_true, cond_true, Bool.and_comm]
/-- The critical edges among the first ones. -/
def critTo (ts : List Tm) (k : Nat) : List Ed := ((someE ts fun _ => true).take k).filter (critE ts)
theorem critTo_le (ts : List Tm) (k : Nat) : (critTo ts k).length ≤ 400 := Nat.le_trans (List.length_filter_le _ _) (by
  rw [List.length_take]
  exact Nat.le_trans (Nat.min_le_right _ _) (someE_len_le _ _))
theorem critTo_all (ts : List Tm) : critTo ts (someE ts fun _ => true).length = someE ts (critE ts) := by
  unfold critTo
  rw [List.take_length]
  unfold someE
  cases hc : closed ts with
  | false => rfl
  | true => simp
theorem critTo_succ {ts : List Tm} {k : Nat} {e : Ed} (h : (someE ts fun _ => true)[k]? = some e) : critTo ts (k + 1) = critTo ts k ++ (if critE ts e = true then [e] else []) := by
  unfold critTo
  rw [take_snoc_ h, List.filter_append]
  congr 1
  by_cases hp : critE ts e = true <;> simp [hp]
theorem critTo_get {ts : List Tm} {k : Nat} {e : Ed} (h : (someE ts fun _ => true)[k]? = some e) (hc : critE ts e = true) : (someE ts (critE ts))[(critTo ts k).length]? = some e := by
  have h1 := critTo_succ h
  rw [if_pos hc] at h1
  have hk := (List.getElem?_eq_some_iff.1 h).1
  have hpre : critTo ts (someE ts fun _ => true).length = critTo ts (k + 1) ++ ((someE ts fun _ => true).drop (k + 1)).filter (critE ts) := by
    unfold critTo
    rw [List.take_length, ← List.filter_append, List.take_append_drop]
  rw [← critTo_all, hpre, h1, List.append_assoc, List.getElem?_append_right (Nat.le_refl _)]
  simp
theorem edgesTo_src {ts : List Tm} {k : Nat} {e : Ed} (h : e ∈ edgesTo ts k) : e.src < (k : Int) := by
  unfold edgesTo edgesB at h
  simp only [List.mem_flatMap, Prod.exists, List.mem_map, List.mem_zipIdx_iff_getElem?] at h
  obtain ⟨t, i, hi, n, j, hj, rfl⟩ := h
  have := (List.getElem?_eq_some_iff.1 hi).1
  simp at this ⊢
  omega
def EdLt (a b : Ed) : Prop := a.src < b.src ∨ (a.src = b.src ∧ a.arm < b.arm)
theorem edges_sorted (ts : List Tm) : (edges ts).Pairwise EdLt := by
  have key : ∀ k, k ≤ ts.length → (edgesTo ts k).Pairwise EdLt := by
    intro k
    induction k with
    | zero => intro _; simp [edgesTo]
    | succ k ih =>
      intro hk
      rw [edgesTo_succ (List.getElem?_eq_getElem (show k < ts.length by omega)), List.pairwise_append]
      refine ⟨ih (by omega), ?_, fun a ha b hb => .inl ?_⟩
      · rw [List.pairwise_iff_getElem]
        intro i j hi hj hij
        right
        simp [edgesB]
        omega
      · have h1 := edgesTo_src ha
        unfold edgesB at hb
        simp only [List.mem_map] at hb
        obtain ⟨x, _, rfl⟩ := hb
        exact h1
  exact key ts.length (Nat.le_refl _)
theorem edges_next {ts : List Tm} {k : Nat} {a b : Ed} (ha : (someE ts fun _ => true)[k]? = some a) (hb : (someE ts fun _ => true)[k + 1]? = some b) : EdLt a b := by
  have hs : (someE ts fun _ => true).Pairwise EdLt := by
    unfold someE
    cases closed ts with
    | false => exact .nil
    | true => rw [cond_true]; exact (edges_sorted ts).filter _
  obtain ⟨h1, rfl⟩ := List.getElem?_eq_some_iff.1 ha
  obtain ⟨h2, rfl⟩ := List.getElem?_eq_some_iff.1 hb
  exact List.pairwise_iff_getElem.1 hs k (k + 1) h1 h2 (by omega)
theorem edV_get {l : List Ed} {k : Nat} {e : Ed} (h : l[k]? = some e) {j : Nat} {u : Value} (hj : e.cells[j]? = some u) : (edV l)[k * 3 + j]? = some u := by
  have hl := (List.getElem?_eq_some_iff.1 hj).1
  unfold edV
  rw [flat_get Ed.len _ _ _ _ h hl]
  exact hj
theorem reached_none {ts : List Tm} {fr nt : List Int} (hc : closed ts = false) : reachedF ts fr nt = [] := by unfold reachedF; rw [hc]; rfl
theorem reached_union {ts : List Tm} {fr more : List Int} (i : Nat) : i ∈ reachedF ts (fr ++ more) [] ↔ i ∈ reachedF ts fr [] ∨ i ∈ reachedF ts more [] := by
  cases hc : closed ts with
  | false => simp [reached_none hc]
  | true =>
    rw [mem_reachedF hc, mem_reachedF hc, mem_reachedF hc]
    constructor
    · rintro ⟨a, h1, h2, h3⟩
      rcases List.mem_append.1 h2 with h2 | h2
      · exact .inl ⟨a, h1, h2, h3⟩
      · exact .inr ⟨a, h1, h2, h3⟩
    · rintro (⟨a, h1, h2, h3⟩ | ⟨a, h1, h2, h3⟩)
      · exact ⟨a, h1, by simp [h2], h3⟩
      · exact ⟨a, h1, by simp [h2], h3⟩
end Go.Proofs.Ytbcnejobnmljlaa
