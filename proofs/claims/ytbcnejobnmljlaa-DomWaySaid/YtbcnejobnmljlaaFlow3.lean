/- The package flow: what is reached, walked. -/
import Derived.Test.YtbcnejobnmljlaaFlow2
import Derived.Test.YtbcnejobnmljlaaReach
namespace Go.Proofs.Ytbcnejobnmljlaa
set_option linter.unusedVariables false
open Go Go.RowKit
set_option maxRecDepth 100000

theorem enc_ne {s t : Nat} (hs : Sm s) (ht : Sm t) : decide (s = t) = true ↔ enc s = enc t := enc_iff hs ht
theorem intsN_get {l : List Nat} {k n : Nat} (h : l[k]? = some n) : (intsN l)[k]? = some (.int .i64 (n : Int)) := by simp [intsN, h]
theorem toAt_i64 {f : RFun} (hfit : Fit f) {b : RBlk} (hb : b ∈ f.blocks) : ∀ n ∈ toL b.term, I64 n := fun n hn => by
  unfold I64
  rcases toL_mem hn with e | e
  · exact hfit.term b hb _ (by simp [e])
  · exact hfit.term b hb _ (by simp [e])
end Go.Proofs.Ytbcnejobnmljlaa
