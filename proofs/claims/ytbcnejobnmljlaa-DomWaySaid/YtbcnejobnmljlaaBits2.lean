/- The package bits: what goes through a set's numbers, walked. -/
import Derived.Test.YtbcnejobnmljlaaBits
import Derived.Test.YtbcnejobnmljlaaTz
namespace Go.Proofs.Ytbcnejobnmljlaa
set_option linter.unusedVariables false
open Go Go.RowKit
set_option maxRecDepth 100000

theorem least_pos {w j : Nat} (h : Least w j) : 0 < w := by
  rcases Nat.eq_zero_or_pos w with h0 | h0
  · have := h.1; rw [h0, Nat.zero_testBit] at this; cases this
  · exact h0
def intsN (l : List Nat) : List Value := l.map fun n : Nat => .int .i64 (n : Int)
theorem take_snoc? {α : Type} {l : List α} {k : Nat} {x : α} (h : l[k]? = some x) : l.take (k + 1) = l.take k ++ [x] := by
  obtain ⟨h1, h2⟩ := List.getElem?_eq_some_iff.1 h
  rw [take_snoc h1, h2]
end Go.Proofs.Ytbcnejobnmljlaa
