/- The walk of slices.Clone at bytes. -/
import Derived.Test.YtmpknhdfglbocaaGreatProg
import Derived.Test.YtmpknhdfglbocaaGreatBase
import Derived.Deep.QuietTactic
import Derived.BigQuiet
namespace Go.Proofs.YtmpknhdfglbocaaGreat
open Go.RowKit
set_option linter.unusedVariables false

theorem bytesT : ElT Tryz.prog 103 5 (.int .u8 0) 1 1 := ⟨Tryz.underlying103, by kernel_rfl, rfl, by omega⟩

end Go.Proofs.YtmpknhdfglbocaaGreat
