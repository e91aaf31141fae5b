/- The walk of the reference's is of layer 7 (written by termrisgen.py). -/
import Derived.Test.YthhindnjnijglaaTermR
namespace Go.Proofs.Ythhindnjnijglaa
open Go.RowKit
set_option linter.unusedVariables false

end Go.Proofs.Ythhindnjnijglaa
