/- What is reached from some blocks through open ones: plain Lean. -/
import Derived.Test.YtbcnejobnmljlaaModel
import Derived.Test.YtbcnejobnmljlaaTz
namespace Go.Proofs.Ytbcnejobnmljlaa
set_option linter.unusedVariables false
open Go Go.RowKit

def toAt (ts : List Tm) (b : Nat) : List Int := match ts[b]? with
  | some t => toL t
  | none => []
theorem toAt_some {ts : List Tm} {b : Nat} {t : Tm} (h : ts[b]? = some t) : toAt ts b = toL t := by unfold toAt; rw [h]
def nextL (ts : List Tm) (s : Nat) (l : List Nat) : Nat := l.foldl (fun s b => withL s (toAt ts b)) s
def stepS (ts : List Tm) (op s : Nat) : Nat := nextL ts s (listS s) &&& op
def iterF {α : Type} (f : α → α) : Nat → α → α
  | 0, a => a
  | n + 1, a => f (iterF f n a)
def reachS (ts : List Tm) (op s : Nat) : Nat := iterF (stepS ts op) 1025 s
def Sub (s t : Nat) : Prop := ∀ i, s.testBit i = true → t.testBit i = true
theorem Sub.refl (s : Nat) : Sub s s := fun _ h => h
theorem Sub.trans {a b c : Nat} (h : Sub a b) (k : Sub b c) : Sub a c := fun i hi => k i (h i hi)
theorem Sub.eq {a b : Nat} (h : Sub a b) (k : Sub b a) : a = b := Nat.eq_of_testBit_eq fun i => by
  cases ha : a.testBit i <;> cases hb : b.testBit i <;> first | rfl | (have := h i ha; rw [hb] at this; cases this) | (have := k i hb; rw [ha] at this; cases this)
theorem Sub.sm {a b : Nat} (h : Sub a b) (hb : Sm b) : Sm a := fun n hn => by
  cases ha : a.testBit n with
  | false => rfl
  | true => have := h n ha; rw [hb n hn] at this; cases this
theorem testBit_nextL (ts : List Tm) : ∀ (l : List Nat) (s i : Nat), (nextL ts s l).testBit i = (s.testBit i || (okN i && l.any fun b => (toAt ts b).contains (i : Int)))
  | [], s, i => by simp [nextL]
  | b :: l, s, i => by
    show (nextL ts (withL s (toAt ts b)) l).testBit i = _
    rw [testBit_nextL ts l, testBit_withL, List.any_cons]
    cases s.testBit i <;> cases okN (i : Int) <;> simp
theorem nextL_sm {ts : List Tm} {l : List Nat} {s : Nat} (hs : Sm s) : Sm (nextL ts s l) := fun n hn => by
  rw [testBit_nextL, hs n hn]
  have : okN (n : Int) = false := by
    cases h : okN (n : Int) with
    | false => rfl
    | true => rw [okN_iff] at h; omega
  rw [this]; rfl
theorem nextL_snoc {ts : List Tm} {s : Nat} {l : List Nat} {k b : Nat} (h : l[k]? = some b) : nextL ts s (l.take (k + 1)) = withL (nextL ts s (l.take k)) (toAt ts b) := by
  rw [take_snoc_ h]; unfold nextL; rw [List.foldl_append]; rfl
theorem stepS_sm {ts : List Tm} {op s : Nat} (hs : Sm s) : Sm (stepS ts op s) := and_sm (nextL_sm hs)
theorem sub_step {ts : List Tm} {op s : Nat} (h : Sub s op) : Sub s (stepS ts op s) := fun i hi => by
  unfold stepS
  rw [Nat.testBit_and, testBit_nextL, hi, h i hi]; rfl
theorem step_sub (ts : List Tm) (op s : Nat) : Sub (stepS ts op s) op := fun i hi => by
  unfold stepS at hi
  rw [Nat.testBit_and] at hi
  simp only [Bool.and_eq_true] at hi
  exact hi.2
/-- One is in what comes next, just if it was there, or an edge from one that was there goes to it, and it is open. -/
theorem mem_step {ts : List Tm} {op s i : Nat} (hs : Sm s) : (stepS ts op s).testBit i = true ↔ op.testBit i = true ∧ (s.testBit i = true ∨ (i < 1024 ∧ ∃ b, s.testBit b = true ∧ (i : Int) ∈ toAt ts b)) := by
  unfold stepS
  rw [Nat.testBit_and, testBit_nextL]
  simp only [Bool.and_eq_true, Bool.or_eq_true, List.any_eq_true, List.contains_iff_mem]
  constructor
  · rintro ⟨h1 | ⟨h1, b, h2, h3⟩, h4⟩
    · exact ⟨h4, .inl h1⟩
    · exact ⟨h4, .inr ⟨by rw [okN_iff] at h1; omega, b, (mem_listS.1 h2).2, h3⟩⟩
  · rintro ⟨h4, h1 | ⟨h1, b, h2, h3⟩⟩
    · exact ⟨.inl h1, h4⟩
    · refine ⟨.inr ⟨by rw [okN_iff]; omega, b, mem_listS.2 ⟨?_, h2⟩, h3⟩, h4⟩
      rcases Nat.lt_or_ge b 1024 with h | h
      · exact h
      · rw [hs b h] at h2; cases h2
theorem upto_len_mono {s t : Nat} (h : Sub s t) : ∀ n, (upto s n).length ≤ (upto t n).length
  | 0 => by simp [upto_zero]
  | n + 1 => by
    have ih := upto_len_mono h n
    rw [upto_succ, upto_succ, List.length_append, List.length_append]
    cases hs : s.testBit n with
    | false => simp; omega
    | true => rw [h n hs]; simp; omega
theorem upto_len_lt {s t i : Nat} (h : Sub s t) (h1 : s.testBit i = false) (h2 : t.testBit i = true) : ∀ n, i < n → (upto s n).length < (upto t n).length
  | 0, hn => by omega
  | n + 1, hn => by
    rw [upto_succ, upto_succ, List.length_append, List.length_append]
    by_cases he : i = n
    · subst he
      rw [h1, h2]
      have := upto_len_mono h i
      simp; omega
    · have ih := upto_len_lt h h1 h2 n (by omega)
      cases hs : s.testBit n with
      | false => simp; omega
      | true => rw [h n hs]; simp; omega
theorem listS_lt {s t : Nat} (h : Sub s t) (ht : Sm t) (hne : s ≠ t) : (listS s).length < (listS t).length := by
  have : ∃ i, s.testBit i = false ∧ t.testBit i = true := by
    apply Classical.byContradiction
    intro hc
    apply hne
    refine h.eq fun i hi => ?_
    cases hs : s.testBit i with
    | true => rfl
    | false => exact absurd ⟨i, hs, hi⟩ hc
  obtain ⟨i, h1, h2⟩ := this
  refine upto_len_lt h h1 h2 1024 ?_
  rcases Nat.lt_or_ge i 1024 with hi | hi
  · exact hi
  · rw [ht i hi] at h2; cases h2
theorem iter_fix {α : Type} {f : α → α} {a : α} {k : Nat} (h : f (iterF f k a) = iterF f k a) : ∀ m, k ≤ m → iterF f m a = iterF f k a
  | 0, hm => by rw [show k = 0 by omega]
  | m + 1, hm => by
    by_cases he : k = m + 1
    · rw [he]
    · show f (iterF f m a) = _
      rw [iter_fix h m (by omega)]; exact h
/-- The blocks, all of them. -/
def allS (n : Nat) : Nat := (List.range n).foldl (fun s (b : Nat) => withL s [(b : Int)]) 0
theorem allS_succ (n : Nat) : allS (n + 1) = withL (allS n) [(n : Int)] := by unfold allS; rw [List.range_succ, List.foldl_append, List.foldl_cons, List.foldl_nil]
theorem testBit_allS : ∀ (n i : Nat), n ≤ 1024 → (allS n).testBit i = decide (i < n)
  | 0, i, _ => by simp [allS]
  | n + 1, i, h => by
    rw [allS_succ, testBit_withL, testBit_allS n i (by omega)]
    by_cases he : i = n
    · subst he
      have : okN (i : Int) = true := by rw [okN_iff]; omega
      simp [this]
    · have h1 : ([(n : Int)].contains (i : Int)) = false := by simp; omega
      rw [h1]
      simp; omega
theorem allS_sm {n : Nat} (h : n ≤ 1024) : Sm (allS n) := fun i hi => by rw [testBit_allS n i h]; simp; omega
/-- What Reached tells. -/
def reachedF (ts : List Tm) (fr nt : List Int) : List Nat := bif closed ts then listS (reachS ts (lessL (allS ts.length) nt) (lessL (allS ts.length) nt &&& ofL fr)) else []
end Go.Proofs.Ytbcnejobnmljlaa
