/- Sets of numbers below 1024, as natural numbers (their bits); how they lie in sixteen words. Plain Lean. -/
import Derived.Test.YtbcnejobnmljlaaWord
namespace Go.Proofs.Ytbcnejobnmljlaa
set_option linter.unusedVariables false
open Go Go.RowKit

def encF (f : Nat → Nat) : Array Value := ((List.range 16).map fun i => Value.int .u64 (f i : Int)).toArray
theorem encF_size (f : Nat → Nat) : (encF f).size = 16 := by simp [encF]
theorem encF_get {f : Nat → Nat} {i : Nat} (h : i < 16) : (encF f)[i]? = some (.int .u64 (f i : Int)) := by simp [encF, h]
theorem encF_set {f : Nat → Nat} {k v : Nat} : (encF f).setIfInBounds k (.int .u64 (v : Int)) = encF (fun i => if i = k then v else f i) := by
  apply Array.ext'
  simp only [encF, Array.toList_setIfInBounds]
  apply List.ext_getElem?
  intro i
  rw [List.getElem?_set]
  by_cases h : k = i
  · subst h
    by_cases hk : k < 16 <;> simp [hk]
  · have : ¬ i = k := fun e => h e.symm
    simp [h, List.getElem?_map]
    by_cases hk : i < 16
    · simp [List.getElem?_range hk, this]
    · simp [hk]
theorem encF_congr {f g : Nat → Nat} (h : ∀ i, i < 16 → f i = g i) : encF f = encF g := by
  unfold encF
  congr 1
  apply List.map_congr_left
  intro i hi
  rw [h i (by simpa using hi)]
theorem encF_inj {f g : Nat → Nat} (h : encF f = encF g) {i : Nat} (hi : i < 16) : f i = g i := by
  have h1 := encF_get (f := f) hi
  rw [h, encF_get hi] at h1
  simp only [Option.some.injEq, Value.int.injEq, true_and] at h1
  omega
theorem encF_one (f : Nat → Nat) : ∀ u ∈ (encF f).toList, u.oneCell' = true := by
  intro u hu
  simp only [encF, List.mem_map, List.mem_range] at hu
  obtain ⟨i, _, rfl⟩ := hu
  rfl
theorem encF_tell {f g : Nat → Nat} (i : Nat) (a b : Value) (ha : (encF f)[i]? = some a) (hb : (encF g)[i]? = some b) : Tell (.int .u64) a b := by
  by_cases h : i < 16
  · rw [encF_get h] at ha hb
    cases ha; cases hb
    exact Tell.int
  · rw [Array.getElem?_eq_none (by rw [encF_size]; omega)] at ha; cases ha
def wd (s i : Nat) : Nat := s / 2 ^ (64 * i) % 2 ^ 64
def enc (s : Nat) : Array Value := encF (wd s)
theorem wd_lt (s i : Nat) : wd s i < 2 ^ 64 := Nat.mod_lt _ (by decide)
theorem testBit_wd (s i j : Nat) : (wd s i).testBit j = (decide (j < 64) && s.testBit (64 * i + j)) := by
  unfold wd
  rw [Nat.testBit_mod_two_pow, Nat.testBit_div_two_pow, Nat.add_comm j]
theorem enc_size (s : Nat) : (enc s).size = 16 := encF_size _
/-- All its numbers are below 1024. -/
def Sm (s : Nat) : Prop := ∀ n, 1024 ≤ n → s.testBit n = false
theorem wd_ext {s t : Nat} (hs : Sm s) (ht : Sm t) (h : ∀ i, i < 16 → wd s i = wd t i) : s = t := by
  apply Nat.eq_of_testBit_eq
  intro n
  by_cases hn : n < 1024
  · have h1 := congrArg (fun w => w.testBit (n % 64)) (h (n / 64) (by omega))
    simp only [testBit_wd] at h1
    have h2 : n % 64 < 64 := Nat.mod_lt _ (by decide)
    rw [Nat.div_add_mod] at h1
    simpa [h2] using h1
  · rw [hs n (by omega), ht n (by omega)]
theorem enc_inj {s t : Nat} (hs : Sm s) (ht : Sm t) (h : enc s = enc t) : s = t := wd_ext hs ht fun _ hi => encF_inj h hi
theorem enc_iff {s t : Nat} (hs : Sm s) (ht : Sm t) : decide (s = t) = true ↔ enc s = enc t := by
  rw [decide_eq_true_iff]
  exact ⟨fun h => by rw [h], enc_inj hs ht⟩
theorem wd_or (s t i : Nat) : wd (s ||| t) i = wd s i ||| wd t i := by
  apply Nat.eq_of_testBit_eq
  intro j
  simp only [testBit_wd, Nat.testBit_or]
  cases decide (j < 64) <;> simp
theorem wd_and (s t i : Nat) : wd (s &&& t) i = wd s i &&& wd t i := by
  apply Nat.eq_of_testBit_eq
  intro j
  simp only [testBit_wd, Nat.testBit_and]
  cases decide (j < 64) <;> simp
theorem wd_less (s t i : Nat) : wd (less s t) i = less (wd s i) (wd t i) := by
  apply Nat.eq_of_testBit_eq
  intro j
  simp only [testBit_wd, testBit_less]
  cases decide (j < 64) <;> simp
theorem wd_zero (i : Nat) : wd 0 i = 0 := by simp [wd]
theorem enc0 : enc 0 = #[.int .u64 0, .int .u64 0, .int .u64 0, .int .u64 0, .int .u64 0, .int .u64 0, .int .u64 0, .int .u64 0, .int .u64 0, .int .u64 0, .int .u64 0, .int .u64 0, .int .u64 0, .int .u64 0, .int .u64 0, .int .u64 0] := by
  have h : enc 0 = encF (fun _ => 0) := encF_congr fun i _ => wd_zero i
  rw [h]
  rfl
/-- One word of a set with one number alone. -/
theorem wd_pow {n : Nat} (i : Nat) : wd (2 ^ n) i = if i = n / 64 then 2 ^ (n % 64) else 0 := by
  apply Nat.eq_of_testBit_eq
  intro j
  rw [testBit_wd, Nat.testBit_two_pow]
  by_cases h : i = n / 64
  · rw [if_pos h, Nat.testBit_two_pow]
    by_cases hj : n % 64 = j
    · have h2 : n % 64 < 64 := Nat.mod_lt _ (by decide)
      have : n = 64 * i + j := by rw [h, ← hj, Nat.div_add_mod]
      simp [← this]; omega
    · have : ¬ (n = 64 * i + j ∧ j < 64) := by omega
      by_cases h3 : j < 64
      · have h4 : ¬ n = 64 * i + j := by omega
        simp [h4, hj]
      · simp [h3, hj]
  · rw [if_neg h]
    by_cases h3 : j < 64
    · have h4 : ¬ n = 64 * i + j := by omega
      simp [h4]
    · simp [h3]

/-- Is a number one that may be in a set? -/
def okN (n : Int) : Bool := decide (0 ≤ n) && decide (n < 1024)
def put (s : Nat) (n : Int) : Nat := bif okN n then s ||| 2 ^ n.toNat else s
def cut (s : Nat) (n : Int) : Nat := bif okN n then less s (2 ^ n.toNat) else s
def withL (s : Nat) (l : List Int) : Nat := l.foldl put s
def lessL (s : Nat) (l : List Int) : Nat := l.foldl cut s
def ofL (l : List Int) : Nat := withL 0 l
def memb (s : Nat) (n : Int) : Bool := okN n && s.testBit n.toNat
def ints (l : List Int) : List Value := l.map fun n => .int .i64 n
theorem ints_len (l : List Int) : (ints l).length = l.length := by simp [ints]
theorem ints_get {l : List Int} {k : Nat} (h : k < l.length) : (ints l)[k]? = some (.int .i64 l[k]) := by simp [ints, h]
theorem ints_one (l : List Int) : ∀ u ∈ ints l, u.oneCell' = true := by
  intro u hu
  simp only [ints, List.mem_map] at hu
  obtain ⟨i, _, rfl⟩ := hu
  rfl
theorem okN_iff {n : Int} : okN n = true ↔ 0 ≤ n ∧ n < 1024 := by simp [okN]
theorem testBit_put (s : Nat) (n : Int) (i : Nat) : (put s n).testBit i = (s.testBit i || (okN n && decide (n = i))) := by
  unfold put
  cases hn : okN n with
  | true =>
    rw [okN_iff] at hn
    simp only [cond_true, Nat.testBit_or, Nat.testBit_two_pow, Bool.true_and]
    congr 2
    apply propext
    omega
  | false => simp
theorem testBit_cut (s : Nat) (n : Int) (i : Nat) : (cut s n).testBit i = (s.testBit i && !(okN n && decide (n = i))) := by
  unfold cut
  cases hn : okN n with
  | true =>
    rw [okN_iff] at hn
    simp only [cond_true, testBit_less, Nat.testBit_two_pow, Bool.true_and]
    congr 3
    apply propext
    omega
  | false => simp
theorem put_sm {s : Nat} {n : Int} (h : Sm s) : Sm (put s n) := fun i hi => by
  rw [testBit_put, h i hi]
  cases hn : okN n with
  | true => rw [okN_iff] at hn; simp; omega
  | false => rfl
theorem cut_sm {s : Nat} {n : Int} (h : Sm s) : Sm (cut s n) := fun i hi => by rw [testBit_cut, h i hi]; rfl
theorem withL_sm {l : List Int} : ∀ {s : Nat}, Sm s → Sm (withL s l) := by
  induction l with
  | nil => exact fun h => h
  | cons n l ih => exact fun h => ih (put_sm h)
theorem lessL_sm {l : List Int} : ∀ {s : Nat}, Sm s → Sm (lessL s l) := by
  induction l with
  | nil => exact fun h => h
  | cons n l ih => exact fun h => ih (cut_sm h)
theorem zero_sm : Sm 0 := fun n _ => Nat.zero_testBit n
theorem ofL_sm (l : List Int) : Sm (ofL l) := withL_sm zero_sm
theorem or_sm {s t : Nat} (hs : Sm s) (ht : Sm t) : Sm (s ||| t) := fun n h => by rw [Nat.testBit_or, hs n h, ht n h]; rfl
theorem and_sm {s t : Nat} (hs : Sm s) : Sm (s &&& t) := fun n h => by rw [Nat.testBit_and, hs n h]; rfl
theorem less_sm {s t : Nat} (hs : Sm s) : Sm (less s t) := fun n h => by rw [testBit_less, hs n h]; rfl
theorem testBit_withL (l : List Int) : ∀ (s i : Nat), (withL s l).testBit i = (s.testBit i || (okN i && l.contains (i : Int))) := by
  induction l with
  | nil => intro s i; simp [withL]
  | cons n l ih =>
    intro s i
    show (withL (put s n) l).testBit i = _
    rw [ih, testBit_put, List.contains_cons]
    by_cases h : n = (i : Int)
    · subst h
      cases okN (i : Int) <;> simp
    · have h' : ((i : Int) == n) = false := by simp; omega
      simp [h, h']
theorem testBit_lessL (l : List Int) : ∀ (s i : Nat), (lessL s l).testBit i = (s.testBit i && !(okN i && l.contains (i : Int))) := by
  induction l with
  | nil => intro s i; simp [lessL]
  | cons n l ih =>
    intro s i
    show (lessL (cut s n) l).testBit i = _
    rw [ih, testBit_cut, List.contains_cons]
    by_cases h : n = (i : Int)
    · subst h
      cases okN (i : Int) <;> simp
    · have h' : ((i : Int) == n) = false := by simp; omega
      simp [h, h']
theorem testBit_ofL (l : List Int) (i : Nat) : (ofL l).testBit i = (okN i && l.contains (i : Int)) := by simp [ofL, testBit_withL]
/-- The step of With in the words. -/
theorem enc_put {s : Nat} {n : Nat} (h : n < 1024) : (enc s).setIfInBounds (n / 64) (.int .u64 ((wd s (n / 64) ||| 2 ^ (n % 64) : Nat) : Int)) = enc (put s n) := by
  have hn : okN (n : Int) = true := by rw [okN_iff]; omega
  unfold enc
  rw [encF_set]
  apply encF_congr
  intro i hi
  simp only [put, hn, cond_true, Int.toNat_natCast, wd_or, wd_pow]
  split
  · rename_i e; rw [e]
  · simp
theorem enc_cut {s : Nat} {n : Nat} (h : n < 1024) : (enc s).setIfInBounds (n / 64) (.int .u64 ((less (wd s (n / 64)) (2 ^ (n % 64)) : Nat) : Int)) = enc (cut s n) := by
  have hn : okN (n : Int) = true := by rw [okN_iff]; omega
  unfold enc
  rw [encF_set]
  apply encF_congr
  intro i hi
  simp only [cut, hn, cond_true, Int.toNat_natCast, wd_less, wd_pow]
  split
  · rename_i e; rw [e]
  · simp [less]
end Go.Proofs.Ytbcnejobnmljlaa
