/- The walk of slices.Clone at bytes. -/
import Derived.Test.YthhindnjnijglaaProg
import Derived.Test.YthhindnjnijglaaBase
import Derived.Deep.QuietTactic
import Derived.BigQuiet
namespace Go.Proofs.Ythhindnjnijglaa
open Go.RowKit
set_option linter.unusedVariables false

theorem bytesT : ElT Try.prog 104 5 (.int .u8 0) 1 1 := ⟨Try.underlying104, by kernel_rfl, rfl, by omega⟩

end Go.Proofs.Ythhindnjnijglaa
