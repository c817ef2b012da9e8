/- More rules: parts of blocks, elements of slices, slices of arrays, a slice against nil, functions of arguments, maps of integers. Over any program. -/
import Derived.Test.YtbcnejobnmljlaaApp
import Derived.Laws.Cover3
namespace Go.Proofs.Ytbcnejobnmljlaa
set_option linter.unusedVariables false
open Go Go.RowKit

/-- What lies in a block of one's own, read by whoever is called. -/
theorem Reads.blk {w0 w : World} {B i g k n : Nat} {cs : Array Value} {e : TypeId} {fz : Nat × Nat} {M L : List Res} {xs : List Value} (hh : Hp w0 B (M ++ L) w) (hi : L[i]? = some (blk g (.cells cs e fz))) (hl : xs.length = n) (hx : ∀ j u, xs[j]? = some u → cs[k + j]? = some u) : Reads w w.heap.size 1 (some ⟨g, k, none⟩) n xs := by
  have hb : w.heap[g]? = some (.cells cs e fz) := hh.at_ hi
  have hlt := (Array.getElem?_eq_some_iff.1 hb).1
  exact ⟨by omega, fun _ => ⟨_, rfl, hlt, fun j u hu => by
    rw [add_lit_]
    rw [cell_of_row w g (k + j) cs e fz hb]
    exact hx j u hu⟩⟩
section
variable {P : Program} {w0 : World} {B : Nat} {σ : Env} {L : List Res} {d : Option Nat} {ty T : TypeId} {pos : String} {af : Array Edge} {gd : Option (Nat × Bool)} {x y z : Operand} {v : Value}
/-- Some cells of a block, read as one value. -/
theorem ldp {i g k n : Nat} {cs vs : Array Value} {e : TypeId} {fz : Nat × Nat} (hT : AggT P T n) (hi : L[i]? = some (blk g (.cells cs e fz))) (hn : vs.size = n := by rfl) (hv : ∀ j u, vs.toList[j]? = some u → cs[k + j]? = some u) (hx : ev σ x = .pointer (some ⟨g, k, none⟩) := by exact rfl) :
    Sd P w0 B ⟨d, .load T x, ty, pos, af, gd⟩ σ L (.agg vs) := by
  have := lda (x := x) (d := d) (ty := ty) (pos := pos) (af := af) (gd := gd) (w0 := w0) (B := B) (σ := σ) (L := L) (cs := vs.toList) hT (by simpa using hn) (fun j u hu => by
    rw [add_lit_]; exact Rd.blk hi (hv j u hu)) hx
  simpa using this
/-- An element of a slice that came in. -/
theorem lds {s q n k : Nat} {A : Option Addr} {xs es : List Value} (hT : AggT P T s) (hr : Reads w0 B q A n xs) (hl : es.length = s) (he : ∀ j u, es[j]? = some u → xs[k + j]? = some u) (hx : ev σ x = .pointer (some (ap A k)) := by exact rfl) :
    Sd P w0 B ⟨d, .load T x, ty, pos, af, gd⟩ σ L (.agg es.toArray) :=
  lda hT hl (fun j u hu => by rw [ap_add]; exact Rd.slc hr (he j u hu)) hx
/-- An element of a row of one's own. -/
theorem ldr {i s q n c k : Nat} {A : Option Addr} {e : TypeId} {xs es : List Value} (hT : AggT P T s) (hi : L[i]? = some (row (.slice A n c) e q n xs)) (hl : es.length = s) (he : ∀ j u, es[j]? = some u → xs[k + j]? = some u) (hx : ev σ x = .pointer (some (ap A k)) := by exact rfl) :
    Sd P w0 B ⟨d, .load T x, ty, pos, af, gd⟩ σ L (.agg es.toArray) :=
  lda hT hl (fun j u hu => by rw [ap_add]; exact Rd.row hi (he j u hu)) hx
/-- A slice of a whole array in a block. -/
theorem sla {n e s g k : Nat} (hT : ArT P T n e s) (hx : ev σ x = .pointer (some ⟨g, k, none⟩) := by exact rfl) : Sd P w0 B ⟨d, .slice T x none none none, ty, pos, af, gd⟩ σ L (.slice (some ⟨g, k, none⟩) n n) := sp_val fun w => by
  simp [execOp, hx, Instr.sliceAt, run_underlying hT.1, Instr.sliceBounds, run_size hT.2, Instr.sureAddr, Addr.add]
/-- Is a slice nil? -/
theorem eqGuard_slice {op : BinOp} {a b : Option Addr} {n c n' c' : Nat} {w : World} : (eqGuard op T x y (.slice a n c) (.slice b n' c')).run P w = .ok () w := by cases op <;> rfl
theorem esn {u e s b n c : Nat} {A : Option Addr} (hT : SlT P T e s b) (hx : ev σ x = .slice A n c := by exact rfl) (hy : ev σ y = .slice none 0 0 := by exact rfl) : Sd P w0 B ⟨d, .binOp .eql T x y u, ty, pos, af, gd⟩ σ L (.bool A.isNone) := sp_val fun w => by
  have h := run_equal_slice_nil (P := P) w T e A n c hT.1
  simp [execOp, hx, hy, binOp, eqGuard_slice, h]
end
end Go.Proofs.Ytbcnejobnmljlaa
