/- Layer 13, plain laws: what fits a pattern under a way of binding; rows as a tuple. No program is named here. -/
import Derived.Test.YtmpknhdfglbocaaGreatPaU
namespace Go.Proofs.YtmpknhdfglbocaaGreat
open Go.RowKit
set_option linter.unusedVariables false

def ExtB (E : List BV) (f : List UInt8 → Option TV) : Prop := ∀ s v, getG s E = some v → f s = some v
theorem ExtB.refl (E : List BV) : ExtB E (fun s => getG s E) := fun _ _ h => h
theorem ExtB.trans {E F : List BV} {f : List UInt8 → Option TV} (h : ExtB E (fun s => getG s F)) (k : ExtB F f) : ExtB E f := fun s v hs => k s v (h s v hs)
end Go.Proofs.YtmpknhdfglbocaaGreat
