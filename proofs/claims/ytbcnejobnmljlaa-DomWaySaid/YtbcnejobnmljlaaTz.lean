/- The least number of a word, the numbers of a set in order, how many there are. Plain Lean. -/
import Derived.Test.YtbcnejobnmljlaaSet
namespace Go.Proofs.Ytbcnejobnmljlaa
set_option linter.unusedVariables false
open Go Go.RowKit

def tzTab : List Nat := [0, 1, 56, 2, 57, 49, 28, 3, 61, 58, 42, 50, 38, 29, 17, 4, 62, 47, 59, 36, 45, 43, 51, 22, 53, 39, 33, 30, 24, 18, 12, 5, 63, 55, 48, 27, 60, 41, 37, 16, 46, 35, 44, 21, 52, 32, 23, 11, 54, 26, 40, 15, 34, 20, 31, 10, 25, 14, 19, 9, 13, 8, 7, 6]
/-- j is the least number of w. -/
def Least (w j : Nat) : Prop := w.testBit j = true ∧ ∀ i, i < j → w.testBit i = false
theorem least_ex {w : Nat} (h : w ≠ 0) : ∃ j, Least w j := by
  obtain ⟨i, hi⟩ := Nat.exists_testBit_of_ne_zero h
  induction i using Nat.strongRecOn with
  | _ i ih =>
    by_cases hx : ∃ k, k < i ∧ w.testBit k = true
    · obtain ⟨k, hk, hk2⟩ := hx
      exact ih k hk hk2
    · refine ⟨i, hi, fun k hk => ?_⟩
      cases hb : w.testBit k with
      | false => rfl
      | true => exact absurd ⟨k, hk, hb⟩ hx
theorem Least.lt {w j n : Nat} (h : Least w j) (hw : w < 2 ^ n) : j < n := by
  rcases Nat.lt_or_ge j n with hj | hj
  · exact hj
  · have := Nat.testBit_lt_two_pow (Nat.lt_of_lt_of_le hw (Nat.pow_le_pow_right (by decide) hj))
    have h1 := h.1
    rw [this] at h1; cases h1
theorem Least.form {w j : Nat} (h : Least w j) : ∃ q, w = 2 ^ j * (2 * q + 1) := by
  have h0 : w % 2 ^ j = 0 := by
    apply Nat.eq_of_testBit_eq
    intro i
    rw [Nat.testBit_mod_two_pow, Nat.zero_testBit]
    by_cases hi : i < j
    · simp [hi, h.2 i hi]
    · simp [hi]
  have h1 : (w / 2 ^ j) % 2 = 1 := by
    have := h.1
    rw [Nat.testBit_eq_decide_div_mod_eq] at this
    exact of_decide_eq_true this
  refine ⟨w / 2 ^ j / 2, ?_⟩
  have h2 := Nat.div_add_mod w (2 ^ j)
  have h3 := Nat.div_add_mod (w / 2 ^ j) 2
  rw [h0, Nat.add_zero] at h2
  rw [h1] at h3
  rw [h3, h2]
theorem testBit_form {j q r i : Nat} (hr : r < 2 ^ j) : (2 ^ j * q + r).testBit i = if i < j then r.testBit i else q.testBit (i - j) := Nat.testBit_two_pow_mul_add q hr i
/-- The word, and it less 1: without its least number. -/
theorem and_pred {w j : Nat} (h : Least w j) : w &&& (w - 1) = less w (2 ^ j) := by
  obtain ⟨q, hq⟩ := h.form
  have hp : 0 < 2 ^ j := Nat.pow_pos (by decide)
  have e : w - 1 = 2 ^ j * (2 * q) + (2 ^ j - 1) := by
    rw [hq, Nat.mul_add, Nat.mul_one]; omega
  apply Nat.eq_of_testBit_eq
  intro i
  rw [Nat.testBit_and, testBit_less, Nat.testBit_two_pow, e, testBit_form (by omega)]
  have hw : w.testBit i = if i < j then false else (2 * q + 1).testBit (i - j) := by
    rw [hq]
    have := testBit_form (j := j) (q := 2 * q + 1) (r := 0) (i := i) hp
    simpa using this
  rw [hw]
  by_cases hi : i < j
  · simp [hi]
  · rw [if_neg hi, if_neg hi]
    by_cases he : j = i
    · subst he; simp
    · have hpos : 0 < i - j := by omega
      obtain ⟨k, hk⟩ : ∃ k, i - j = k + 1 := ⟨i - j - 1, by omega⟩
      have e1 : (2 * q + 1).testBit (k + 1) = q.testBit k := by rw [Nat.testBit_succ]; congr 1; omega
      have e2 : (2 * q).testBit (k + 1) = q.testBit k := by rw [Nat.testBit_succ]; congr 1; omega
      rw [hk, e1, e2]
      simp [he]
/-- The word, and its opposite: its least number alone. -/
theorem and_opp {w j : Nat} (h : Least w j) (hw : w < 2 ^ 64) : w &&& (2 ^ 64 - w) = 2 ^ j := by
  have hj := h.lt hw
  obtain ⟨q, hq⟩ := h.form
  have hp : 0 < 2 ^ j := Nat.pow_pos (by decide)
  have e64 : (2 : Nat) ^ 64 = 2 ^ j * (2 * 2 ^ (63 - j)) := by
    rw [← Nat.pow_succ', ← Nat.pow_add]; congr 1; omega
  have hlt : 2 * q + 1 < 2 * 2 ^ (63 - j) := by
    have h1 : 2 ^ j * (2 * q + 1) < 2 ^ j * (2 * 2 ^ (63 - j)) := by rw [← e64, ← hq]; exact hw
    exact Nat.lt_of_mul_lt_mul_left h1
  have e : 2 ^ 64 - w = 2 ^ j * (2 * (2 ^ (63 - j) - (q + 1)) + 1) := by
    rw [e64, hq, ← Nat.mul_sub]
    congr 1
    omega
  have hq' : q < 2 ^ (63 - j) := by omega
  apply Nat.eq_of_testBit_eq
  intro i
  have ht : ∀ m, (2 ^ j * m).testBit i = if i < j then false else m.testBit (i - j) := fun m => by
    have := testBit_form (j := j) (q := m) (r := 0) (i := i) hp
    simpa using this
  rw [Nat.testBit_and, Nat.testBit_two_pow, e, hq, ht, ht]
  by_cases hi : i < j
  · simp [hi]; omega
  · rw [if_neg hi, if_neg hi]
    by_cases he : j = i
    · subst he; simp
    · obtain ⟨k, hk⟩ : ∃ k, i - j = k + 1 := ⟨i - j - 1, by omega⟩
      have e1 : ∀ m, (2 * m + 1).testBit (k + 1) = m.testBit k := fun m => by rw [Nat.testBit_succ]; congr 1; omega
      rw [hk, e1, e1, Nat.testBit_two_pow_sub_succ hq']
      simp [he]
      cases q.testBit k <;> simp
theorem tz_tab : ∀ j, j < 64 → tzTab[(2 ^ j * 285870213051353865 % 2 ^ 64 / 2 ^ 58)]? = some j := by decide
theorem tz_lt (j : Nat) : 2 ^ j * 285870213051353865 % 2 ^ 64 / 2 ^ 58 < 64 := by
  have : 2 ^ j * 285870213051353865 % 2 ^ 64 < 2 ^ 64 := Nat.mod_lt _ (by decide)
  omega

/-! ### The numbers in order -/
def upto (s n : Nat) : List Nat := (List.range n).filter s.testBit
def listS (s : Nat) : List Nat := upto s 1024
theorem upto_zero (s : Nat) : upto s 0 = [] := rfl
theorem upto_succ (s n : Nat) : upto s (n + 1) = upto s n ++ (if s.testBit n then [n] else []) := by
  unfold upto
  rw [List.range_succ, List.filter_append]
  congr 1
  cases h : s.testBit n <;> simp [h]
theorem upto_skip {s n : Nat} : ∀ {m : Nat}, n ≤ m → (∀ i, n ≤ i → i < m → s.testBit i = false) → upto s m = upto s n
  | 0, h, _ => by have : n = 0 := by omega
                  rw [this]
  | m + 1, h, hz => by
    by_cases he : n = m + 1
    · rw [he]
    · rw [upto_succ, hz m (by omega) (by omega), upto_skip (m := m) (by omega) (fun i h1 h2 => hz i h1 (by omega))]
      simp
theorem upto_prefix (s : Nat) {n m : Nat} (h : n ≤ m) : ∃ l, upto s m = upto s n ++ l := by
  induction m with
  | zero => exact ⟨[], by have : n = 0 := by omega
                          rw [this]; simp⟩
  | succ m ih =>
    by_cases he : n = m + 1
    · exact ⟨[], by rw [he]; simp⟩
    · obtain ⟨l, hl⟩ := ih (by omega)
      exact ⟨l ++ (if s.testBit m then [m] else []), by rw [upto_succ, hl]; simp⟩
theorem listS_get {s n : Nat} (h : s.testBit n = true) (hn : n < 1024) : (listS s)[(upto s n).length]? = some n := by
  obtain ⟨l, hl⟩ := upto_prefix s (n := n + 1) (m := 1024) (by omega)
  unfold listS
  rw [hl, upto_succ, h]
  simp
theorem mem_upto {s n i : Nat} : i ∈ upto s n ↔ i < n ∧ s.testBit i = true := by simp [upto, List.mem_filter]
theorem mem_listS {s i : Nat} : i ∈ listS s ↔ i < 1024 ∧ s.testBit i = true := mem_upto
theorem upto_len_le (s n : Nat) : (upto s n).length ≤ n := by
  unfold upto
  exact Nat.le_trans (List.length_filter_le _ _) (by simp)
theorem listS_len_le (s : Nat) : (listS s).length ≤ 1024 := upto_len_le s 1024
theorem listS_sorted (s : Nat) : (listS s).Pairwise (· < ·) := List.Pairwise.filter _ List.pairwise_lt_range
/-- A word of which all numbers below p are taken away. -/
def rem (w p : Nat) : Nat := w / 2 ^ p * 2 ^ p
theorem testBit_rem (w p i : Nat) : (rem w p).testBit i = (decide (p ≤ i) && w.testBit i) := by
  unfold rem
  rw [Nat.mul_comm]
  have := testBit_form (j := p) (q := w / 2 ^ p) (r := 0) (i := i) (Nat.pow_pos (by decide))
  rw [Nat.add_zero] at this
  rw [this, Nat.testBit_div_two_pow]
  by_cases h : i < p
  · have : ¬ p ≤ i := by omega
    simp [h, this]
  · have : p ≤ i := by omega
    simp [h, this]
theorem rem_zero (w : Nat) : rem w 0 = w := by simp [rem]
theorem rem_lt {w p : Nat} (h : w < 2 ^ 64) : rem w p < 2 ^ 64 := Nat.lt_of_le_of_lt (Nat.div_mul_le_self _ _) h
theorem rem_less {w p j : Nat} (h : Least (rem w p) j) : less (rem w p) (2 ^ j) = rem w (j + 1) := by
  apply Nat.eq_of_testBit_eq
  intro i
  rw [testBit_less, testBit_rem, testBit_rem, Nat.testBit_two_pow]
  rcases Nat.lt_trichotomy i j with hi | hi | hi
  · have h1 := h.2 i hi
    rw [testBit_rem] at h1
    have h3 : ¬ j + 1 ≤ i := by omega
    simp [h1, h3]
  · subst hi
    have h3 : ¬ i + 1 ≤ i := by omega
    simp [h3]
  · have h1 := h.1
    rw [testBit_rem] at h1
    simp only [Bool.and_eq_true, decide_eq_true_eq] at h1
    have h4 : p ≤ i := by omega
    have h5 : j + 1 ≤ i := by omega
    have h6 : ¬ j = i := by omega
    simp [h4, h5, h6]
end Go.Proofs.Ytbcnejobnmljlaa
