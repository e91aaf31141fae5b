/- The walk of slices.Clone at bytes. -/
import Derived.Test.YtmpknhdfglbocaaProg
import Derived.Test.YtmpknhdfglbocaaBase
import Derived.Deep.QuietTactic
import Derived.BigQuiet
namespace Go.Proofs.Ytmpknhdfglbocaa
open Go.RowKit
set_option linter.unusedVariables false

theorem bytesT : ElT Try.prog 97 5 (.int .u8 0) 1 1 := ⟨Try.underlying97, by kernel_rfl, rfl, by omega⟩

end Go.Proofs.Ytmpknhdfglbocaa
