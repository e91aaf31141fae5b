/-
  NARROWER THAN 'FOR EVERY INPUT', by the rows' own cells (each row's printed sentence says how): EncodePuts: loops · EncodeBack: loops · EncodeRow: loops · EncodeCut: loops.
  DERIVED. THE GIVEN ROWS OF THIS SEAT. 4 by the template 'for every input the law returns true; each argument reads behind the call as it read before'; 0 by the template 'total and deterministic' (their statements: YtommadcjemljcaaTotals.lean).
  GIVEN WITH THE SEED: the statements are not yours to turn. If you find one false, say at which input.
  Laid BY PROGRAM, IN A SANDBOX (cutbox-rows.mjs): the forced cells as the released guide's own fill.sh prints them over the translation 14aa2838f5a490c1… (all of the seat's roots in one cut). By AI agents, Wed Nov 11 2026. No macro, syntax, notation, axiom, sorry.
-/
import Derived.Test.YtommadcjemljcaaChecked
import GoSem.Claim
import GoSem.ClaimJoined
import GoSem.ClaimMapViews
import Derived.JoinedTies
import Derived.KernelRfl
namespace Go.Proofs.Ytommadcjemljcaa
/- THE CELL 'sum', in the pinned program and in every row, IS THE sha256 OF THE DUMP (.gsa) THAT YtommadcjemljcaaProg.lean LOADS. Nothing in Lean hashes anything: it is a label: what it is worth is what the hold of that sum in a sandbox is worth. -/
noncomputable def Try.pinned : Pinned := { name := "ytommadcjemljcaa", sum := "14aa2838f5a490c15ef0148b6dff1c639942950aef2077bb522f8e4a938806b5", checked := Try.checked }
namespace Rows
def none {H : Type} : Left H := { results := [], args := [] }

/-- 'emberslaw08.EncodePuts': WHATEVER THE INPUT: true; the input reads as it did. -/
def encodePutsSpec : ChangeSpec := { name := "encodePuts", fn := fun _ => fun
  | [d1, d2] => { results := [.lit (.bool true)], args := [d1, d2] }
  | _ => none }
def encodePutsRow : OpenClaim := { program := "ytommadcjemljcaa", sum := "14aa2838f5a490c15ef0148b6dff1c639942950aef2077bb522f8e4a938806b5", func := "embers/emberslaw08.EncodePuts", spec := "encodePuts", unfollowed := true, recurses := true, loops := true, apart := false }
def EncodePutsSaid : Prop := encodePutsRow.holds Try.pinned (OpenSpec.ofChange encodePutsSpec)

/-- ITS FALSE NEIGHBOUR: 'it returns false'. Refute it at one input. -/
def encodePutsWrong : ChangeSpec := { name := "encodePuts", fn := fun _ => fun
  | [d1, d2] => { results := [.lit (.bool false)], args := [d1, d2] }
  | _ => none }
def EncodePutsWrongFalsely : Prop := encodePutsRow.holds Try.pinned (OpenSpec.ofChange encodePutsWrong)

/-- 'emberslaw08.EncodeBack': WHATEVER THE INPUT: true; the input reads as it did. -/
def encodeBackSpec : ChangeSpec := { name := "encodeBack", fn := fun _ => fun
  | [d1, d2] => { results := [.lit (.bool true)], args := [d1, d2] }
  | _ => none }
def encodeBackRow : OpenClaim := { program := "ytommadcjemljcaa", sum := "14aa2838f5a490c15ef0148b6dff1c639942950aef2077bb522f8e4a938806b5", func := "embers/emberslaw08.EncodeBack", spec := "encodeBack", unfollowed := true, recurses := true, loops := true, apart := false }
def EncodeBackSaid : Prop := encodeBackRow.holds Try.pinned (OpenSpec.ofChange encodeBackSpec)

/-- ITS FALSE NEIGHBOUR: 'it returns false'. Refute it at one input. -/
def encodeBackWrong : ChangeSpec := { name := "encodeBack", fn := fun _ => fun
  | [d1, d2] => { results := [.lit (.bool false)], args := [d1, d2] }
  | _ => none }
def EncodeBackWrongFalsely : Prop := encodeBackRow.holds Try.pinned (OpenSpec.ofChange encodeBackWrong)

/-- 'emberslaw08.EncodeRow': WHATEVER THE INPUT: true; the input reads as it did. -/
def encodeRowSpec : ChangeSpec := { name := "encodeRow", fn := fun _ => fun
  | [d1, d2] => { results := [.lit (.bool true)], args := [d1, d2] }
  | _ => none }
def encodeRowRow : OpenClaim := { program := "ytommadcjemljcaa", sum := "14aa2838f5a490c15ef0148b6dff1c639942950aef2077bb522f8e4a938806b5", func := "embers/emberslaw08.EncodeRow", spec := "encodeRow", unfollowed := true, recurses := true, loops := true, apart := false }
def EncodeRowSaid : Prop := encodeRowRow.holds Try.pinned (OpenSpec.ofChange encodeRowSpec)

/-- ITS FALSE NEIGHBOUR: 'it returns false'. Refute it at one input. -/
def encodeRowWrong : ChangeSpec := { name := "encodeRow", fn := fun _ => fun
  | [d1, d2] => { results := [.lit (.bool false)], args := [d1, d2] }
  | _ => none }
def EncodeRowWrongFalsely : Prop := encodeRowRow.holds Try.pinned (OpenSpec.ofChange encodeRowWrong)

/-- 'emberslaw08.EncodeCut': WHATEVER THE INPUT: true; the input reads as it did. -/
def encodeCutSpec : ChangeSpec := { name := "encodeCut", fn := fun _ => fun
  | [d1, d2, d3] => { results := [.lit (.bool true)], args := [d1, d2, d3] }
  | _ => none }
def encodeCutRow : OpenClaim := { program := "ytommadcjemljcaa", sum := "14aa2838f5a490c15ef0148b6dff1c639942950aef2077bb522f8e4a938806b5", func := "embers/emberslaw08.EncodeCut", spec := "encodeCut", unfollowed := true, recurses := true, loops := true, apart := false }
def EncodeCutSaid : Prop := encodeCutRow.holds Try.pinned (OpenSpec.ofChange encodeCutSpec)

/-- ITS FALSE NEIGHBOUR: 'it returns false'. Refute it at one input. -/
def encodeCutWrong : ChangeSpec := { name := "encodeCut", fn := fun _ => fun
  | [d1, d2, d3] => { results := [.lit (.bool false)], args := [d1, d2, d3] }
  | _ => none }
def EncodeCutWrongFalsely : Prop := encodeCutRow.holds Try.pinned (OpenSpec.ofChange encodeCutWrong)

/- THE SECOND FORM. 'bulk': how many values and letters a reading holds, each counted each time it is reached (what is shared counts as often as it is met; a slice's spare places count too). A statement '..UptoSaid' is the law's where the arguments, and the package variables that the reading takes, are together of bulk at most 1048576: NARROWER than '..Said'. Prove '..Said' where nothing that the law and all that it calls make is longer than what came in: it says more and counts as full. Else prove '..UptoSaid'. A law counts once. -/
mutual
def uptoBulk {H : Type} : DataW H → Nat
  | .lit (.string bytes) => bytes.length + 1
  | .lit _ => 1
  | .nil => 1
  | .ptr d => uptoBulk d + 1
  | .slice elems spare => uptoBulkAll elems + uptoBulkAll spare + 1
  | .agg parts => uptoBulkAll parts + 1
  | .iface _ d => uptoBulk d + 1
  | .map entries => uptoBulkEntries entries + 1
  | .held _ => 1
def uptoBulkAll {H : Type} : List (DataW H) → Nat
  | [] => 0
  | d :: r => uptoBulk d + uptoBulkAll r
def uptoBulkEntries {H : Type} : List (Lit × DataW H) → Nat
  | [] => 0
  | x :: r => uptoBulkEntry x + uptoBulkEntries r
def uptoBulkEntry {H : Type} : Lit × DataW H → Nat
  | (.string bytes, d) => bytes.length + uptoBulk d + 1
  | (_, d) => uptoBulk d + 1
 end
def uptoSmall : (H : Type) → List (DataW H) → Bool := fun _ ds => decide (uptoBulkAll ds ≤ 1048576)
def OpenSpec.upto (s : _root_.Go.ChangeSpec) : _root_.Go.OpenSpec := { _root_.Go.OpenSpec.ofChange s with cond := some uptoSmall }

/-- 'emberslaw08.EncodePuts', WHERE WHAT IT READS IS OF BULK AT MOST 1048576: true; the input reads as it did. -/
def encodePutsUptoRow : OpenClaim := { program := "ytommadcjemljcaa", sum := "14aa2838f5a490c15ef0148b6dff1c639942950aef2077bb522f8e4a938806b5", func := "embers/emberslaw08.EncodePuts", spec := "encodePuts", unfollowed := true, recurses := true, loops := true, apart := false, narrowed := true }
def EncodePutsUptoSaid : Prop := encodePutsUptoRow.holds Try.pinned (OpenSpec.upto encodePutsSpec)

/-- 'emberslaw08.EncodeBack', WHERE WHAT IT READS IS OF BULK AT MOST 1048576: true; the input reads as it did. -/
def encodeBackUptoRow : OpenClaim := { program := "ytommadcjemljcaa", sum := "14aa2838f5a490c15ef0148b6dff1c639942950aef2077bb522f8e4a938806b5", func := "embers/emberslaw08.EncodeBack", spec := "encodeBack", unfollowed := true, recurses := true, loops := true, apart := false, narrowed := true }
def EncodeBackUptoSaid : Prop := encodeBackUptoRow.holds Try.pinned (OpenSpec.upto encodeBackSpec)

/-- 'emberslaw08.EncodeRow', WHERE WHAT IT READS IS OF BULK AT MOST 1048576: true; the input reads as it did. -/
def encodeRowUptoRow : OpenClaim := { program := "ytommadcjemljcaa", sum := "14aa2838f5a490c15ef0148b6dff1c639942950aef2077bb522f8e4a938806b5", func := "embers/emberslaw08.EncodeRow", spec := "encodeRow", unfollowed := true, recurses := true, loops := true, apart := false, narrowed := true }
def EncodeRowUptoSaid : Prop := encodeRowUptoRow.holds Try.pinned (OpenSpec.upto encodeRowSpec)

/-- 'emberslaw08.EncodeCut', WHERE WHAT IT READS IS OF BULK AT MOST 1048576: true; the input reads as it did. -/
def encodeCutUptoRow : OpenClaim := { program := "ytommadcjemljcaa", sum := "14aa2838f5a490c15ef0148b6dff1c639942950aef2077bb522f8e4a938806b5", func := "embers/emberslaw08.EncodeCut", spec := "encodeCut", unfollowed := true, recurses := true, loops := true, apart := false, narrowed := true }
def EncodeCutUptoSaid : Prop := encodeCutUptoRow.holds Try.pinned (OpenSpec.upto encodeCutSpec)

end Rows
end Go.Proofs.Ytommadcjemljcaa
