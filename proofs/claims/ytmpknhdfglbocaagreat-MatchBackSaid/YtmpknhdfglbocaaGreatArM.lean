/- Maps from names to functions (or any other values), made by a map literal: what lies there, what is found. No program is named here. -/
import Derived.Test.YtmpknhdfglbocaaGreatMapA
namespace Go.Proofs.YtmpknhdfglbocaaGreat
open Go.RowKit Go.Maps Go.MapKept
set_option linter.unusedVariables false

def anyE : Value → Option (DataW Value × List MemPlace) := fun v => some (.held v, [])
abbrev FTab := List (List UInt8 × Value)
def tabD (l : FTab) : DataW Value := l.foldl (fun D q => D.put (.string q.1) (.held q.2)) (.map [])

section
variable {P : Program} {w w' : World} {t k e : TypeId} {b : Nat} {l : FTab}
/-- The block b holds such a map. -/
def Tab (P : Program) (k : TypeId) (w : World) (b : Nat) (l : FTab) : Prop := w.ownsMap P k anyE b l.length (tabD l)
theorem Tab.keep (h : Tab P k w b l) (hb : Below w.heap.size w w') : Tab P k w' b l := owns_keep h hb
theorem Tab.lt (h : Tab P k w b l) : b < w.heap.size := World.ownsMap.lt h
end
end Go.Proofs.YtmpknhdfglbocaaGreat
