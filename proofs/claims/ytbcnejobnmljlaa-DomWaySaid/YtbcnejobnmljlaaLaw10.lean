/- The law 10: its small functions, walked. -/
import Derived.Test.YtbcnejobnmljlaaFlow2
import Derived.Test.YtbcnejobnmljlaaFlow3
import Derived.Test.YtbcnejobnmljlaaOrder
import Derived.Test.YtbcnejobnmljlaaStruct
namespace Go.Proofs.Ytbcnejobnmljlaa
set_option linter.unusedVariables false
open Go Go.RowKit
set_option maxRecDepth 100000


section
theorem ints_eq_of {a b : List Int} (hl : a.length = b.length) (h : ∀ i x y, i < a.length → a[i]? = some x → b[i]? = some y → x = y) : a = b := by
  apply List.ext_getElem hl
  intro i h1 h2
  exact h i _ _ h1 (List.getElem?_eq_getElem h1) (List.getElem?_eq_getElem h2)
theorem kit_SameInts_ct {w : World} {A B : Option Addr} {c d : Nat} {a b : List Int} (ha : Reads w w.heap.size 1 A a.length (ints a)) (hb : Reads w w.heap.size 1 B b.length (ints b)) (hal : a.length < 2 ^ 62) (hbl : b.length < 2 ^ 62) :
    Ct Try.prog 14 #[.slice A a.length c, .slice B b.length d] w (Is (.bool (decide (a = b)))) := by
  refine Ct.mk Try.func14 rfl rfl ?_
  refine Cd.seq ?_
  refine Cd.region ?_
  refine Ol.p asb ?_
  refine Ol.nil ?_
  refine Cd.seq ?_
  refine Cd.seq ?_
  refine Cd.region ?_
  refine Ol.p mvs ?_
  refine Ol.p (lens sl_L_int) ?_
  refine Ol.p mvs ?_
  refine Ol.p (lens sl_L_int) ?_
  refine Ol.p nei ?_
  refine Ol.nil ?_
  refine Cd.cond rfl (fun h => ?_) (fun h => ?_)
  · refine Cd.seq ?_
    refine Cd.region ?_
    refine Ol.p asb ?_
    refine Ol.nil ?_
    refine Cd.ret ⟨_, ret1 rfl rfl, [], .nil, ?_, rfl⟩
    have hne : a ≠ b := fun e => by subst e; simp at h
    rw [decide_eq_false hne]; rfl
  have hll : a.length = b.length := by
    have : (a.length : Int) = b.length := by simpa using h
    omega
  refine Cd.skip ?_
  refine Cd.seq ?_
  refine Cd.seq ?_
  refine Cd.region ?_
  refine Ol.p asi ?_
  refine Ol.nil ?_
  refine Cd.block ?_
  refine Cd.loop (fun m σ L => ∃ k, m = a.length - k ∧ k ≤ a.length ∧ Has σ [(0, .slice A a.length c), (1, .slice B b.length d), (5, .int .i64 k)] ∧ L = [] ∧ ∀ i x y, i < k → a[i]? = some x → b[i]? = some y → x = y) (n := a.length) ⟨0, rfl, Nat.zero_le _, ⟨rfl, rfl, rfl, trivial⟩, rfl, fun i x y h => by omega⟩ ?_
  rintro _ σ L ⟨k, rfl, hk, hs, rfl, hyes⟩
  refine Cd.has hs ?_
  refine Cd.seq ?_
  refine Cd.seq ?_
  refine Cd.region ?_
  refine Ol.p mvi ?_
  refine Ol.p mvs ?_
  refine Ol.p (lens sl_L_int) ?_
  refine Ol.p lsi ?_
  refine Ol.nil ?_
  refine Cd.cond rfl (fun h => ?_) (fun h => ?_)
  · have hlt : k < a.length := by simpa using h
    have hlt2 : k < b.length := by omega
    refine Cd.skip ?_
    refine Cd.seq ?_
    refine Cd.block ?_
    refine Cd.seq ?_
    refine Cd.draw mixed 9 (fun _ => none) (fun _ => []) (by kernel_rfl) (fun _ _ h => by cases h) (fun u hu => ?_)
    refine Wk.p mvs ?_
    refine Wk.p mvi ?_
    refine Wk.p (ixn1 sl_L_int (Som.slc ha (by omega))) ?_
    refine Wk.p (ld one_int (Rd.slc ha (ints_get hlt))) ?_
    refine Wk.p mvs ?_
    refine Wk.p mvi ?_
    refine Wk.p (ixn1 sl_L_int (Som.slc hb (by omega))) ?_
    refine Wk.p (ld one_int (Rd.slc hb (ints_get hlt2))) ?_
    refine Wk.p nei ?_
    refine Wk.nil ?_
    refine Ol.nil ?_
    refine Cd.cond rfl (fun h2 => ?_) (fun h2 => ?_)
    · refine Cd.seq ?_
      refine Cd.region ?_
      refine Ol.p asb ?_
      refine Ol.nil ?_
      refine Cd.ret ⟨_, ret1 rfl rfl, [], .nil, ?_, rfl⟩
      have hne : a ≠ b := fun e => by subst e; simp at h2
      rw [decide_eq_false hne]; rfl
    · refine Cd.skip ?_
      refine Cd.region ?_
      refine Ol.p mvi ?_
      refine Ol.p addi ?_
      refine Ol.p asi ?_
      refine Ol.nil ?_
      refine ⟨a.length - (k + 1), by omega, k + 1, rfl, by omega, ⟨rfl, rfl, rfl, trivial⟩, rfl, ?_⟩
      intro i x y hi hx hy
      rcases Nat.lt_or_ge i k with h3 | h3
      · exact hyes i x y h3 hx hy
      · have : i = k := by omega
        subst this
        rw [List.getElem?_eq_getElem hlt] at hx
        rw [List.getElem?_eq_getElem hlt2] at hy
        cases hx; cases hy
        simpa using h2
  · have hge : k = a.length := by
      have : ¬ (k : Int) < a.length := by simpa using h
      omega
    subst hge
    refine Cd.exit (id := 0) ?_
    refine Cd.seq ?_
    refine Cd.region ?_
    refine Ol.p asb ?_
    refine Ol.nil ?_
    refine Cd.ret ⟨_, ret1 rfl rfl, [], .nil, ?_, rfl⟩
    rw [decide_eq_true (ints_eq_of hll hyes)]; rfl
end


