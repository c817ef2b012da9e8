/- Is a number one of some: walked, as each law has it. -/
import Derived.Test.YtbcnejobnmljlaaTypes
import Derived.Test.YtbcnejobnmljlaaMore
import Derived.Test.YtbcnejobnmljlaaSet
import Derived.Test.YtbcnejobnmljlaaModel
namespace Go.Proofs.Ytbcnejobnmljlaa
set_option linter.unusedVariables false
open Go Go.RowKit
set_option maxRecDepth 100000

theorem contains_false {l : List Int} {n : Int} (h : ∀ (i : Nat) m, i < l.length → l[i]? = some m → m ≠ n) : l.contains n = false := by
  rw [← Bool.not_eq_true, List.contains_iff_mem]
  intro hm
  obtain ⟨i, hi⟩ := List.mem_iff_getElem?.1 hm
  exact h i n (List.getElem?_eq_some_iff.1 hi).1 hi rfl
theorem contains_natsI {l : List Nat} {n : Nat} : (l.map fun n : Nat => (n : Int)).contains (n : Int) = decide (n ∈ l) := by
  rw [List.contains_eq_mem]
  congr 1
  simp only [List.mem_map, eq_iff_iff]
  exact ⟨fun ⟨m, h, e⟩ => by have : m = n := by omega
                             rwa [← this], fun h => ⟨n, h, rfl⟩⟩
section
theorem law11_has_ct {w : World} {A : Option Addr} {c : Nat} {l : List Int} {n : Int} (hl : Reads w w.heap.size 1 A l.length (ints l)) (hb : l.length < 2 ^ 62) :
    Ct Try.prog 10 #[.slice A l.length c, .int .i64 n] w (Is (.bool (l.contains n))) := by
  refine Ct.mk Try.func10 rfl rfl ?_
  refine Cd.seq ?_
  refine Cd.region ?_
  refine Ol.p asb ?_
  refine Ol.nil ?_
  refine Cd.seq ?_
  refine Cd.seq ?_
  refine Cd.region ?_
  refine Ol.p asi ?_
  refine Ol.nil ?_
  refine Cd.block ?_
  refine Cd.loop (fun m σ L => ∃ k, m = l.length - k ∧ k ≤ l.length ∧ (∀ (i : Nat) m, i < k → l[i]? = some m → m ≠ n) ∧ Has σ [(0, .slice A l.length c), (1, .int .i64 n), (5, .int .i64 k)] ∧ [] = L) (n := l.length) ⟨0, rfl, Nat.zero_le _, fun i m h => by omega, ⟨rfl, rfl, rfl, trivial⟩, rfl⟩ ?_
  rintro _ σ L ⟨k, rfl, hk, hno, hs, rfl⟩
  refine Cd.has hs ?_
  refine Cd.seq ?_
  refine Cd.seq ?_
  refine Cd.region ?_
  refine Ol.p mvi ?_
  refine Ol.p mvs ?_
  refine Ol.p (lens sl_L_int) ?_
  refine Ol.p lsi ?_
  refine Ol.nil ?_
  refine Cd.cond rfl (fun h => ?_) (fun h => ?_)
  · have hlt : k < l.length := by simpa using h
    obtain ⟨m, hm⟩ : ∃ m, l[k]? = some m := ⟨_, List.getElem?_eq_getElem hlt⟩
    have hmv : (ints l)[k]? = some (.int .i64 m) := by simp [ints, hm]
    refine Cd.skip ?_
    refine Cd.seq ?_
    refine Cd.block ?_
    refine Cd.seq ?_
    refine Cd.region ?_
    refine Ol.p mvs ?_
    refine Ol.p mvi ?_
    refine Ol.p (ixn1 (ix := k) sl_L_int (Som.slc hl (by omega))) ?_
    refine Ol.p (ld one_int (Rd.slc hl hmv)) ?_
    refine Ol.p mvi ?_
    refine Ol.p eqi ?_
    refine Ol.nil ?_
    refine Cd.cond rfl (fun h2 => ?_) (fun h2 => ?_)
    · have e : m = n := by simpa using h2
      have hc : l.contains n = true := by rw [List.contains_iff_mem, ← e]; exact List.mem_of_getElem? hm
      rw [hc]
      refine Cd.seq ?_
      refine Cd.region ?_
      refine Ol.p asb ?_
      refine Ol.nil ?_
      exact Cd.ret ⟨.bool _, ret1 rfl rfl, [], .nil, rfl, rfl⟩
    have e : m ≠ n := by simpa using h2
    refine Cd.skip ?_
    refine Cd.region ?_
    refine Ol.p mvi ?_
    refine Ol.p addi ?_
    refine Ol.p asi ?_
    refine Ol.nil ?_
    refine ⟨l.length - (k + 1), by omega, k + 1, rfl, by omega, fun i m' hi hm' => ?_, ⟨rfl, rfl, rfl, trivial⟩, rfl⟩
    by_cases hik : i = k
    · subst hik
      rw [hm] at hm'; cases hm'
      exact e
    · exact hno i m' (by omega) hm'
  have hc : l.contains n = false := contains_false fun i m hi hm => hno i m (by
    have : ¬ (k : Int) < l.length := by simpa using h
    omega) hm
  rw [hc]
  refine Cd.exit (id := 0) ?_
  refine Cd.seq ?_
  refine Cd.region ?_
  refine Ol.p asb ?_
  refine Ol.nil ?_
  exact Cd.ret ⟨.bool _, ret1 rfl rfl, [], .nil, rfl, rfl⟩
theorem law11_has_nat {w : World} {A : Option Addr} {c : Nat} {l : List Nat} {n : Nat} (hl : Reads w w.heap.size 1 A l.length (l.map fun n : Nat => Value.int .i64 (n : Int))) (hb : l.length < 2 ^ 62) :
    Ct Try.prog 10 #[.slice A l.length c, .int .i64 (n : Int)] w (Is (.bool (decide (n ∈ l)))) := by
  have := law11_has_ct (w := w) (A := A) (c := c) (l := l.map fun n : Nat => (n : Int)) (n := (n : Int)) (by rw [List.length_map]; simpa [ints, Function.comp_def] using hl) (by rw [List.length_map]; exact hb)
  rw [List.length_map, contains_natsI] at this
  exact this
end
end Go.Proofs.Ytbcnejobnmljlaa
