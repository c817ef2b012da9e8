/- Opening arguments for the walks; closing a law's row. -/
import Derived.Test.YtbcnejobnmljlaaRows
import Derived.WalkKit
import Derived.ProofKit
import Derived.OpenShut
import Derived.ChangeOld
import Derived.Below
import Derived.SizedLaws
import Derived.LaidMore
import Derived.Stop.Joined
import Derived.LaidHandle
import Derived.Lib.LaidTab
import Derived.Test.YtbcnejobnmljlaaBits2
namespace Go.Proofs.Ytbcnejobnmljlaa
set_option linter.unusedVariables false
open Go.ChangeShapes Go.WideShapes Go.ChangeAt Go.RowKit
set_option maxRecDepth 100000

theorem own_ : ownKnob Try.prog.godebug = none := by kernel_rfl
theorem laidOut_ : laidOutB Try.prog = true := by kernel_rfl
theorem bytes_int : Try.prog.bytesOf 3 = 8 := by kernel_rfl
theorem cells_int : Try.prog.cellsOf 3 = 1 := by kernel_rfl
theorem i64_of_wf {n : Int} (h : (Lit.int .i64 n).wf = true) : I64 n := by
  have := bounds_i64 h
  unfold I64; omega
/-- A slice of integers that came in, for the walks. -/
theorem reads_ints {H : Type} {enc : TypeId × Value → H} {W : World} {a : Option Addr} {len cap : Nat} {d : DataW H} {p : List MemPlace} (h : DataW.Trod enc Try.prog W 0 (fun _ => true) true 22 (.slice a len cap) d p) :
    ∃ l : List Int, l.length = len ∧ len ≤ cap ∧ Reads W W.heap.size 1 a l.length (ints l) ∧ (∀ n ∈ l, I64 n) ∧ (len = 0 ∨ ∃ elems spare, d = .slice elems spare ∧ len ≤ elems.length + spare.length) := by
  obtain ⟨fuel, hf⟩ := h
  rcases open_ints Try.underlying22 Try.underlying3 cells_int hf with ⟨hcs, hx⟩ | ⟨x, l, c, zs, hcs, _, hl, hm, hz, hx, hcell, hwz⟩
  · simp [Value.cells] at hcs
    obtain ⟨rfl, rfl, rfl⟩ := hcs
    exact ⟨[], rfl, Nat.le_refl _, ⟨rfl, fun h => by simp at h⟩, by simp, .inl rfl⟩
  · simp [Value.cells] at hcs
    obtain ⟨rfl, rfl, rfl⟩ := hcs
    have hz' : zs.length = cap := by simpa using hz
    have hlen : (zs.take len).length = len := by simp; omega
    refine ⟨zs.take len, hlen, hl, ⟨by simp [ints], fun hn => ⟨x, rfl, ?_, fun j u hu => ?_⟩⟩, fun n hn => i64_of_wf (hwz n (List.mem_of_mem_take hn)), .inr ⟨_, _, congrArg Prod.fst hx, ?_⟩⟩
    · have h0 := hcell 0 (by omega)
      have := World.block_lt_of_cell? W _ h0
      simpa [Addr.add] using this
    · unfold ints at hu
      rw [List.getElem?_map] at hu
      cases hj : (zs.take len)[j]? with
      | none => rw [hj] at hu; cases hu
      | some z =>
        rw [hj] at hu
        cases hu
        have h1 : j < len := by
          have := (List.getElem?_eq_some_iff.1 hj).1
          omega
        have h2 := hcell j (by omega)
        rw [h2]
        rw [List.getElem?_take, if_pos h1] at hj
        simp [List.getD_eq_getElem?_getD, hj]
    · simp [lits]
      omega
end Go.Proofs.Ytbcnejobnmljlaa
