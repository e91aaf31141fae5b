/- The walks of the term package's is, Check, Size, gone on with (written by termisgen.py). -/
import Derived.Test.YthhindnjnijglaaTermI
import Derived.RegionTactic
import Derived.BigRegion
namespace Go.Proofs.Ythhindnjnijglaa
open Go.RowKit
set_option linter.unusedVariables false

def IsEnds (W : World) (k n : Int) (s : List UInt8) (len : Nat) (b : Bool) (e : Ending) (w' : World) : Prop := e = .returned (.bool (headB k n s len && b)) ∧ Below W.heap.size W w'


end Go.Proofs.Ythhindnjnijglaa
