/- What each statement of layer 3 owes; the contracts of Put and Parts by their ways. -/
import Derived.Test.YthdhinhedgcbcaaLive
import Derived.Test.YthdhinhedgcbcaaPartsM
namespace Go.Proofs.Ythdhinhedgcbcaa
open Go.RowKit
set_option linter.unusedVariables false

def Yes (w : World) (e : Ending) (w' : World) : Prop := e = .returned (.bool true) ∧ Below w.heap.size w w'
theorem live_from {w W : World} (h : Below w.heap.size w W) : Calls Try.prog 8 #[] W (Yes w) :=
  (live_any W).mono fun _ _ ⟨he, hb⟩ => ⟨he, below_step h hb⟩
end Go.Proofs.Ythdhinhedgcbcaa
