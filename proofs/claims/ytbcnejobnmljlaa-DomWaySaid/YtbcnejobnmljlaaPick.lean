/- Picking. -/
import Derived.Test.YtbcnejobnmljlaaTypes
import Derived.Test.YtbcnejobnmljlaaBits
namespace Go.Proofs.Ytbcnejobnmljlaa
set_option linter.unusedVariables false
open Go Go.RowKit
set_option maxRecDepth 100000
section
def pickF (x : Int) (n : Nat) : Nat := (x % (n : Int)).toNat
theorem pickF_lt {x : Int} {n : Nat} (h : 0 < n) : pickF x n < n := by
  unfold pickF
  have h1 := Int.emod_nonneg x (b := (n : Int)) (by omega)
  have h2 := Int.emod_lt_of_pos x (b := (n : Int)) (by omega)
  omega
theorem kit_Pick_ct {w : World} {x : Int} {n : Nat} (hn : 0 < n) (hn2 : n < 2 ^ 62) : Ct Try.prog 8 #[.int .i64 x, .int .i64 n] w (Is (.int .i64 (pickF x n : Int))) := by
  have hr := Int.tmod_lt_of_pos x (b := (n : Int)) (by omega)
  have hr2 : -(n : Int) < x.tmod n := by
    have h1 := Int.emod_nonneg x (b := (n : Int)) (by omega)
    have h2 := Int.emod_lt_of_pos x (b := (n : Int)) (by omega)
    have h3 := Int.tmod_eq_emod (a := x) (b := (n : Int))
    by_cases hx : 0 ≤ x ∨ (n : Int) ∣ x
    · rw [if_pos hx] at h3; omega
    · rw [if_neg hx] at h3
      have h4 : x % (n : Int) ≠ 0 := fun e => hx (.inr (Int.dvd_of_emod_eq_zero e))
      omega
  have e1 : ¬ (x.tmod n < 0) → x.tmod n = (pickF x n : Int) := fun h => by
    unfold pickF
    have h1 := Int.emod_nonneg x (b := (n : Int)) (by omega)
    have h2 := Int.emod_lt_of_pos x (b := (n : Int)) (by omega)
    have h3 := Int.tmod_eq_emod (a := x) (b := (n : Int))
    rw [Int.toNat_of_nonneg h1]
    split at h3 <;> omega
  have e2 : x.tmod n < 0 → x.tmod n + n = (pickF x n : Int) := fun h => by
    unfold pickF
    have h1 := Int.emod_nonneg x (b := (n : Int)) (by omega)
    have h2 := Int.emod_lt_of_pos x (b := (n : Int)) (by omega)
    have h3 := Int.tmod_eq_emod (a := x) (b := (n : Int))
    rw [Int.toNat_of_nonneg h1]
    split at h3 <;> omega
  refine Ct.mk Try.func8 rfl rfl ?_
  refine Cd.seq ?_
  refine Cd.region ?_
  refine Ol.p asi ?_
  refine Ol.nil ?_
  refine Cd.seq ?_
  refine Cd.seq ?_
  refine Cd.region ?_
  refine Ol.p mvi ?_
  refine Ol.p lsi ?_
  refine Ol.nil ?_
  refine Cd.cond rfl (fun h => ?_) (fun h => ?_)
  · simp at h; omega
  refine Cd.skip ?_
  refine Cd.seq ?_
  refine Cd.region ?_
  refine Ol.p mvi ?_
  refine Ol.p mvi ?_
  refine Ol.p remi ?_
  refine Ol.p asi ?_
  refine Ol.nil ?_
  refine Cd.seq ?_
  refine Cd.seq ?_
  refine Cd.region ?_
  refine Ol.p mvi ?_
  refine Ol.p lsi ?_
  refine Ol.nil ?_
  refine Cd.cond rfl (fun h => ?_) (fun h => ?_)
  · have h' : x.tmod n < 0 := by simpa using h
    refine Cd.region ?_
    refine Ol.p mvi ?_
    refine Ol.p mvi ?_
    refine Ol.p addi ?_
    refine Ol.p asi ?_
    refine Ol.nil ?_
    refine Cd.seq ?_
    refine Cd.region ?_
    refine Ol.p mvi ?_
    refine Ol.p asi ?_
    refine Ol.nil ?_
    refine Cd.ret ⟨_, ret1 rfl rfl, [], .nil, ?_, rfl⟩
    rw [← e2 h']
    rfl
  · have h' : ¬ x.tmod n < 0 := by simpa using h
    refine Cd.skip ?_
    refine Cd.seq ?_
    refine Cd.region ?_
    refine Ol.p mvi ?_
    refine Ol.p asi ?_
    refine Ol.nil ?_
    refine Cd.ret ⟨_, ret1 rfl rfl, [], .nil, ?_, rfl⟩
    rw [← e1 h']
    rfl
end
end Go.Proofs.Ytbcnejobnmljlaa
