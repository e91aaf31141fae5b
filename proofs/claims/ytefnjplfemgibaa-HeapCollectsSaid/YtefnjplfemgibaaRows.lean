/-
  NARROWER THAN 'FOR EVERY INPUT', by the rows' own cells (each row's printed sentence says how): HeapOnce: loops · HeapLays: loops · HeapBack: loops.
  DERIVED. THE GIVEN ROWS OF THIS SEAT. 5 by the template 'for every input the law returns true; each argument reads behind the call as it read before'; 0 by the template 'total and deterministic' (their statements: YtefnjplfemgibaaTotals.lean).
  GIVEN WITH THE SEED: the statements are not yours to turn. If you find one false, say at which input.
  Laid BY PROGRAM, IN A SANDBOX (cutbox-rows.mjs): the forced cells as the released guide's own fill.sh prints them over the translation 36f440005db4d7ed… (all of the seat's roots in one cut). By AI agents, Wed Nov 11 2026. No macro, syntax, notation, axiom, sorry.
-/
import Derived.Test.YtefnjplfemgibaaChecked
import GoSem.Claim
import GoSem.ClaimJoined
import GoSem.ClaimMapViews
import Derived.JoinedTies
import Derived.KernelRfl
namespace Go.Proofs.Ytefnjplfemgibaa
/- THE CELL 'sum', in the pinned program and in every row, IS THE sha256 OF THE DUMP (.gsa) THAT YtefnjplfemgibaaProg.lean LOADS. Nothing in Lean hashes anything: it is a label: what it is worth is what the hold of that sum in a sandbox is worth. -/
noncomputable def Try.pinned : Pinned := { name := "ytefnjplfemgibaa", sum := "36f440005db4d7ed6a292e798ac54fa807534eaf3abe5fe06bcf4c44ae54ef4d", checked := Try.checked }
namespace Rows
def none {H : Type} : Left H := { results := [], args := [] }

/-- 'emberslaw09.HeapOnce': WHATEVER THE INPUT: true; the input reads as it did. -/
def heapOnceSpec : ChangeSpec := { name := "heapOnce", fn := fun _ => fun
  | [d] => { results := [.lit (.bool true)], args := [d] }
  | _ => none }
def heapOnceRow : OpenClaim := { program := "ytefnjplfemgibaa", sum := "36f440005db4d7ed6a292e798ac54fa807534eaf3abe5fe06bcf4c44ae54ef4d", func := "embers/emberslaw09.HeapOnce", spec := "heapOnce", inPlace := ["slices.overlaps[uint64]"], unfollowed := true, recurses := true, loops := true, apart := false }
def HeapOnceSaid : Prop := heapOnceRow.holds Try.pinned (OpenSpec.ofChange heapOnceSpec)

/-- ITS FALSE NEIGHBOUR: 'it returns false'. Refute it at one input. -/
def heapOnceWrong : ChangeSpec := { name := "heapOnce", fn := fun _ => fun
  | [d] => { results := [.lit (.bool false)], args := [d] }
  | _ => none }
def HeapOnceWrongFalsely : Prop := heapOnceRow.holds Try.pinned (OpenSpec.ofChange heapOnceWrong)

/-- 'emberslaw09.HeapLays': WHATEVER THE INPUT: true; the input reads as it did. -/
def heapLaysSpec : ChangeSpec := { name := "heapLays", fn := fun _ => fun
  | [d1, d2] => { results := [.lit (.bool true)], args := [d1, d2] }
  | _ => none }
def heapLaysRow : OpenClaim := { program := "ytefnjplfemgibaa", sum := "36f440005db4d7ed6a292e798ac54fa807534eaf3abe5fe06bcf4c44ae54ef4d", func := "embers/emberslaw09.HeapLays", spec := "heapLays", inPlace := ["slices.overlaps[uint64]"], unfollowed := true, recurses := true, loops := true, apart := false }
def HeapLaysSaid : Prop := heapLaysRow.holds Try.pinned (OpenSpec.ofChange heapLaysSpec)

/-- ITS FALSE NEIGHBOUR: 'it returns false'. Refute it at one input. -/
def heapLaysWrong : ChangeSpec := { name := "heapLays", fn := fun _ => fun
  | [d1, d2] => { results := [.lit (.bool false)], args := [d1, d2] }
  | _ => none }
def HeapLaysWrongFalsely : Prop := heapLaysRow.holds Try.pinned (OpenSpec.ofChange heapLaysWrong)

/-- 'emberslaw09.HeapBytes': WHATEVER THE INPUT: true; the input reads as it did. -/
def heapBytesSpec : ChangeSpec := { name := "heapBytes", fn := fun _ => fun
  | [d1, d2, d3] => { results := [.lit (.bool true)], args := [d1, d2, d3] }
  | _ => none }
def heapBytesRow : OpenClaim := { program := "ytefnjplfemgibaa", sum := "36f440005db4d7ed6a292e798ac54fa807534eaf3abe5fe06bcf4c44ae54ef4d", func := "embers/emberslaw09.HeapBytes", spec := "heapBytes", inPlace := ["slices.overlaps[uint64]"], unfollowed := true, recurses := true, apart := false }
def HeapBytesSaid : Prop := heapBytesRow.holds Try.pinned (OpenSpec.ofChange heapBytesSpec)

/-- ITS FALSE NEIGHBOUR: 'it returns false'. Refute it at one input. -/
def heapBytesWrong : ChangeSpec := { name := "heapBytes", fn := fun _ => fun
  | [d1, d2, d3] => { results := [.lit (.bool false)], args := [d1, d2, d3] }
  | _ => none }
def HeapBytesWrongFalsely : Prop := heapBytesRow.holds Try.pinned (OpenSpec.ofChange heapBytesWrong)

/-- 'emberslaw09.HeapCollects': WHATEVER THE INPUT: true; the input reads as it did. -/
def heapCollectsSpec : ChangeSpec := { name := "heapCollects", fn := fun _ => fun
  | [d1, d2, d3] => { results := [.lit (.bool true)], args := [d1, d2, d3] }
  | _ => none }
def heapCollectsRow : OpenClaim := { program := "ytefnjplfemgibaa", sum := "36f440005db4d7ed6a292e798ac54fa807534eaf3abe5fe06bcf4c44ae54ef4d", func := "embers/emberslaw09.HeapCollects", spec := "heapCollects", inPlace := ["slices.overlaps[uint64]"], unfollowed := true, recurses := true, apart := false }
def HeapCollectsSaid : Prop := heapCollectsRow.holds Try.pinned (OpenSpec.ofChange heapCollectsSpec)

/-- ITS FALSE NEIGHBOUR: 'it returns false'. Refute it at one input. -/
def heapCollectsWrong : ChangeSpec := { name := "heapCollects", fn := fun _ => fun
  | [d1, d2, d3] => { results := [.lit (.bool false)], args := [d1, d2, d3] }
  | _ => none }
def HeapCollectsWrongFalsely : Prop := heapCollectsRow.holds Try.pinned (OpenSpec.ofChange heapCollectsWrong)

/-- 'emberslaw09.HeapBack': WHATEVER THE INPUT: true; the input reads as it did. -/
def heapBackSpec : ChangeSpec := { name := "heapBack", fn := fun _ => fun
  | [d1, d2, d3] => { results := [.lit (.bool true)], args := [d1, d2, d3] }
  | _ => none }
def heapBackRow : OpenClaim := { program := "ytefnjplfemgibaa", sum := "36f440005db4d7ed6a292e798ac54fa807534eaf3abe5fe06bcf4c44ae54ef4d", func := "embers/emberslaw09.HeapBack", spec := "heapBack", inPlace := ["slices.overlaps[uint64]"], unfollowed := true, recurses := true, loops := true, apart := false }
def HeapBackSaid : Prop := heapBackRow.holds Try.pinned (OpenSpec.ofChange heapBackSpec)

/-- ITS FALSE NEIGHBOUR: 'it returns false'. Refute it at one input. -/
def heapBackWrong : ChangeSpec := { name := "heapBack", fn := fun _ => fun
  | [d1, d2, d3] => { results := [.lit (.bool false)], args := [d1, d2, d3] }
  | _ => none }
def HeapBackWrongFalsely : Prop := heapBackRow.holds Try.pinned (OpenSpec.ofChange heapBackWrong)

/- THE SECOND FORM. 'bulk': how many values and letters a reading holds, each counted each time it is reached (what is shared counts as often as it is met; a slice's spare places count too). A statement '..UptoSaid' is the law's where the arguments, and the package variables that the reading takes, are together of bulk at most 1048576: NARROWER than '..Said'. Prove '..Said' where nothing that the law and all that it calls make is longer than what came in: it says more and counts as full. Else prove '..UptoSaid'. A law counts once. -/
mutual
def uptoBulk {H : Type} : DataW H → Nat
  | .lit (.string bytes) => bytes.length + 1
  | .lit _ => 1
  | .nil => 1
  | .ptr d => uptoBulk d + 1
  | .slice elems spare => uptoBulkAll elems + uptoBulkAll spare + 1
  | .agg parts => uptoBulkAll parts + 1
  | .iface _ d => uptoBulk d + 1
  | .map entries => uptoBulkEntries entries + 1
  | .held _ => 1
def uptoBulkAll {H : Type} : List (DataW H) → Nat
  | [] => 0
  | d :: r => uptoBulk d + uptoBulkAll r
def uptoBulkEntries {H : Type} : List (Lit × DataW H) → Nat
  | [] => 0
  | x :: r => uptoBulkEntry x + uptoBulkEntries r
def uptoBulkEntry {H : Type} : Lit × DataW H → Nat
  | (.string bytes, d) => bytes.length + uptoBulk d + 1
  | (_, d) => uptoBulk d + 1
 end
def uptoSmall : (H : Type) → List (DataW H) → Bool := fun _ ds => decide (uptoBulkAll ds ≤ 1048576)
def OpenSpec.upto (s : _root_.Go.ChangeSpec) : _root_.Go.OpenSpec := { _root_.Go.OpenSpec.ofChange s with cond := some uptoSmall }

/-- 'emberslaw09.HeapOnce', WHERE WHAT IT READS IS OF BULK AT MOST 1048576: true; the input reads as it did. -/
def heapOnceUptoRow : OpenClaim := { program := "ytefnjplfemgibaa", sum := "36f440005db4d7ed6a292e798ac54fa807534eaf3abe5fe06bcf4c44ae54ef4d", func := "embers/emberslaw09.HeapOnce", spec := "heapOnce", inPlace := ["slices.overlaps[uint64]"], unfollowed := true, recurses := true, loops := true, apart := false, narrowed := true }
def HeapOnceUptoSaid : Prop := heapOnceUptoRow.holds Try.pinned (OpenSpec.upto heapOnceSpec)

/-- 'emberslaw09.HeapLays', WHERE WHAT IT READS IS OF BULK AT MOST 1048576: true; the input reads as it did. -/
def heapLaysUptoRow : OpenClaim := { program := "ytefnjplfemgibaa", sum := "36f440005db4d7ed6a292e798ac54fa807534eaf3abe5fe06bcf4c44ae54ef4d", func := "embers/emberslaw09.HeapLays", spec := "heapLays", inPlace := ["slices.overlaps[uint64]"], unfollowed := true, recurses := true, loops := true, apart := false, narrowed := true }
def HeapLaysUptoSaid : Prop := heapLaysUptoRow.holds Try.pinned (OpenSpec.upto heapLaysSpec)

/-- 'emberslaw09.HeapBytes', WHERE WHAT IT READS IS OF BULK AT MOST 1048576: true; the input reads as it did. -/
def heapBytesUptoRow : OpenClaim := { program := "ytefnjplfemgibaa", sum := "36f440005db4d7ed6a292e798ac54fa807534eaf3abe5fe06bcf4c44ae54ef4d", func := "embers/emberslaw09.HeapBytes", spec := "heapBytes", inPlace := ["slices.overlaps[uint64]"], unfollowed := true, recurses := true, apart := false, narrowed := true }
def HeapBytesUptoSaid : Prop := heapBytesUptoRow.holds Try.pinned (OpenSpec.upto heapBytesSpec)

/-- 'emberslaw09.HeapCollects', WHERE WHAT IT READS IS OF BULK AT MOST 1048576: true; the input reads as it did. -/
def heapCollectsUptoRow : OpenClaim := { program := "ytefnjplfemgibaa", sum := "36f440005db4d7ed6a292e798ac54fa807534eaf3abe5fe06bcf4c44ae54ef4d", func := "embers/emberslaw09.HeapCollects", spec := "heapCollects", inPlace := ["slices.overlaps[uint64]"], unfollowed := true, recurses := true, apart := false, narrowed := true }
def HeapCollectsUptoSaid : Prop := heapCollectsUptoRow.holds Try.pinned (OpenSpec.upto heapCollectsSpec)

/-- 'emberslaw09.HeapBack', WHERE WHAT IT READS IS OF BULK AT MOST 1048576: true; the input reads as it did. -/
def heapBackUptoRow : OpenClaim := { program := "ytefnjplfemgibaa", sum := "36f440005db4d7ed6a292e798ac54fa807534eaf3abe5fe06bcf4c44ae54ef4d", func := "embers/emberslaw09.HeapBack", spec := "heapBack", inPlace := ["slices.overlaps[uint64]"], unfollowed := true, recurses := true, loops := true, apart := false, narrowed := true }
def HeapBackUptoSaid : Prop := heapBackUptoRow.holds Try.pinned (OpenSpec.upto heapBackSpec)

end Rows
end Go.Proofs.Ytefnjplfemgibaa
