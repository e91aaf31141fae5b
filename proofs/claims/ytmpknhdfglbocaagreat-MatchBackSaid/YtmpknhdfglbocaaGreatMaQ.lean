/- Layer 13: the walk of the document's Get. -/
import Derived.Test.YtmpknhdfglbocaaGreatMaJ
namespace Go.Proofs.YtmpknhdfglbocaaGreat
open Go.RowKit
set_option linter.unusedVariables false

end Go.Proofs.YtmpknhdfglbocaaGreat
