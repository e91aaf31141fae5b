/-
  No cell of these rows narrows 'for every input' (looked for: loops, veiled, ifaces, maps, wideKeys, modest, calm, conditions, laid).
  DERIVED. THE GIVEN ROWS OF THIS SEAT. 7 by the template 'for every input the law returns true; each argument reads behind the call as it read before'; 0 by the template 'total and deterministic' (their statements: YtdmehbejfigaiaaTotals.lean).
  GIVEN WITH THE SEED: the statements are not yours to turn. If you find one false, say at which input.
  Laid BY PROGRAM, IN A SANDBOX (cutbox-rows.mjs): the forced cells as the released guide's own fill.sh prints them over the translation 5b698cce7665b927… (all of the seat's roots in one cut). By AI agents, Wed Nov 11 2026. No macro, syntax, notation, axiom, sorry.
-/
import Derived.Test.YtdmehbejfigaiaaChecked
import GoSem.Claim
import GoSem.ClaimJoined
import GoSem.ClaimMapViews
import Derived.JoinedTies
import Derived.KernelRfl
namespace Go.Proofs.Ytdmehbejfigaiaa
/- THE CELL 'sum', in the pinned program and in every row, IS THE sha256 OF THE DUMP (.gsa) THAT YtdmehbejfigaiaaProg.lean LOADS. Nothing in Lean hashes anything: it is a label: what it is worth is what the hold of that sum in a sandbox is worth. -/
noncomputable def Try.pinned : Pinned := { name := "ytdmehbejfigaiaa", sum := "5b698cce7665b92764cca8608284728a46a1e20693c4af3054d601c24e6f5963", checked := Try.checked }
namespace Rows
def none {H : Type} : Left H := { results := [], args := [] }

/-- 'emberslaw01.SpoolLeast': WHATEVER THE INPUT: true; the input reads as it did. -/
def spoolLeastSpec : ChangeSpec := { name := "spoolLeast", fn := fun _ => fun
  | [d1, d2, d3] => { results := [.lit (.bool true)], args := [d1, d2, d3] }
  | _ => none }
def spoolLeastRow : OpenClaim := { program := "ytdmehbejfigaiaa", sum := "5b698cce7665b92764cca8608284728a46a1e20693c4af3054d601c24e6f5963", func := "embers/emberslaw01.SpoolLeast", spec := "spoolLeast", apart := false }
def SpoolLeastSaid : Prop := spoolLeastRow.holds Try.pinned (OpenSpec.ofChange spoolLeastSpec)

/-- ITS FALSE NEIGHBOUR: 'it returns false'. Refute it at one input. -/
def spoolLeastWrong : ChangeSpec := { name := "spoolLeast", fn := fun _ => fun
  | [d1, d2, d3] => { results := [.lit (.bool false)], args := [d1, d2, d3] }
  | _ => none }
def SpoolLeastWrongFalsely : Prop := spoolLeastRow.holds Try.pinned (OpenSpec.ofChange spoolLeastWrong)

/-- 'emberslaw01.SpoolParts': WHATEVER THE INPUT: true; the input reads as it did. -/
def spoolPartsSpec : ChangeSpec := { name := "spoolParts", fn := fun _ => fun
  | [d1, d2, d3, d4] => { results := [.lit (.bool true)], args := [d1, d2, d3, d4] }
  | _ => none }
def spoolPartsRow : OpenClaim := { program := "ytdmehbejfigaiaa", sum := "5b698cce7665b92764cca8608284728a46a1e20693c4af3054d601c24e6f5963", func := "embers/emberslaw01.SpoolParts", spec := "spoolParts", apart := false }
def SpoolPartsSaid : Prop := spoolPartsRow.holds Try.pinned (OpenSpec.ofChange spoolPartsSpec)

/-- ITS FALSE NEIGHBOUR: 'it returns false'. Refute it at one input. -/
def spoolPartsWrong : ChangeSpec := { name := "spoolParts", fn := fun _ => fun
  | [d1, d2, d3, d4] => { results := [.lit (.bool false)], args := [d1, d2, d3, d4] }
  | _ => none }
def SpoolPartsWrongFalsely : Prop := spoolPartsRow.holds Try.pinned (OpenSpec.ofChange spoolPartsWrong)

/-- 'emberslaw01.SpoolPuts': WHATEVER THE INPUT: true; the input reads as it did. -/
def spoolPutsSpec : ChangeSpec := { name := "spoolPuts", fn := fun _ => fun
  | [d1, d2, d3, d4] => { results := [.lit (.bool true)], args := [d1, d2, d3, d4] }
  | _ => none }
def spoolPutsRow : OpenClaim := { program := "ytdmehbejfigaiaa", sum := "5b698cce7665b92764cca8608284728a46a1e20693c4af3054d601c24e6f5963", func := "embers/emberslaw01.SpoolPuts", spec := "spoolPuts", apart := false }
def SpoolPutsSaid : Prop := spoolPutsRow.holds Try.pinned (OpenSpec.ofChange spoolPutsSpec)

/-- ITS FALSE NEIGHBOUR: 'it returns false'. Refute it at one input. -/
def spoolPutsWrong : ChangeSpec := { name := "spoolPuts", fn := fun _ => fun
  | [d1, d2, d3, d4] => { results := [.lit (.bool false)], args := [d1, d2, d3, d4] }
  | _ => none }
def SpoolPutsWrongFalsely : Prop := spoolPutsRow.holds Try.pinned (OpenSpec.ofChange spoolPutsWrong)

/-- 'emberslaw01.SpoolBack': WHATEVER THE INPUT: true; the input reads as it did. -/
def spoolBackSpec : ChangeSpec := { name := "spoolBack", fn := fun _ => fun
  | [d1, d2, d3] => { results := [.lit (.bool true)], args := [d1, d2, d3] }
  | _ => none }
def spoolBackRow : OpenClaim := { program := "ytdmehbejfigaiaa", sum := "5b698cce7665b92764cca8608284728a46a1e20693c4af3054d601c24e6f5963", func := "embers/emberslaw01.SpoolBack", spec := "spoolBack", apart := false }
def SpoolBackSaid : Prop := spoolBackRow.holds Try.pinned (OpenSpec.ofChange spoolBackSpec)

/-- ITS FALSE NEIGHBOUR: 'it returns false'. Refute it at one input. -/
def spoolBackWrong : ChangeSpec := { name := "spoolBack", fn := fun _ => fun
  | [d1, d2, d3] => { results := [.lit (.bool false)], args := [d1, d2, d3] }
  | _ => none }
def SpoolBackWrongFalsely : Prop := spoolBackRow.holds Try.pinned (OpenSpec.ofChange spoolBackWrong)

/-- 'emberslaw01.SpoolShort': WHATEVER THE INPUT: true; the input reads as it did. -/
def spoolShortSpec : ChangeSpec := { name := "spoolShort", fn := fun _ => fun
  | [d1, d2, d3] => { results := [.lit (.bool true)], args := [d1, d2, d3] }
  | _ => none }
def spoolShortRow : OpenClaim := { program := "ytdmehbejfigaiaa", sum := "5b698cce7665b92764cca8608284728a46a1e20693c4af3054d601c24e6f5963", func := "embers/emberslaw01.SpoolShort", spec := "spoolShort", apart := false }
def SpoolShortSaid : Prop := spoolShortRow.holds Try.pinned (OpenSpec.ofChange spoolShortSpec)

/-- ITS FALSE NEIGHBOUR: 'it returns false'. Refute it at one input. -/
def spoolShortWrong : ChangeSpec := { name := "spoolShort", fn := fun _ => fun
  | [d1, d2, d3] => { results := [.lit (.bool false)], args := [d1, d2, d3] }
  | _ => none }
def SpoolShortWrongFalsely : Prop := spoolShortRow.holds Try.pinned (OpenSpec.ofChange spoolShortWrong)

/-- 'emberslaw01.SpoolReads': WHATEVER THE INPUT: true; the input reads as it did. -/
def spoolReadsSpec : ChangeSpec := { name := "spoolReads", fn := fun _ => fun
  | [d1, d2] => { results := [.lit (.bool true)], args := [d1, d2] }
  | _ => none }
def spoolReadsRow : OpenClaim := { program := "ytdmehbejfigaiaa", sum := "5b698cce7665b92764cca8608284728a46a1e20693c4af3054d601c24e6f5963", func := "embers/emberslaw01.SpoolReads", spec := "spoolReads", apart := false }
def SpoolReadsSaid : Prop := spoolReadsRow.holds Try.pinned (OpenSpec.ofChange spoolReadsSpec)

/-- ITS FALSE NEIGHBOUR: 'it returns false'. Refute it at one input. -/
def spoolReadsWrong : ChangeSpec := { name := "spoolReads", fn := fun _ => fun
  | [d1, d2] => { results := [.lit (.bool false)], args := [d1, d2] }
  | _ => none }
def SpoolReadsWrongFalsely : Prop := spoolReadsRow.holds Try.pinned (OpenSpec.ofChange spoolReadsWrong)

/-- 'emberslaw01.SpoolNil': WHATEVER THE INPUT: true; the input reads as it did. -/
def spoolNilSpec : ChangeSpec := { name := "spoolNil", fn := fun _ => fun
  | [d] => { results := [.lit (.bool true)], args := [d] }
  | _ => none }
def spoolNilRow : OpenClaim := { program := "ytdmehbejfigaiaa", sum := "5b698cce7665b92764cca8608284728a46a1e20693c4af3054d601c24e6f5963", func := "embers/emberslaw01.SpoolNil", spec := "spoolNil", apart := false }
def SpoolNilSaid : Prop := spoolNilRow.holds Try.pinned (OpenSpec.ofChange spoolNilSpec)

/-- ITS FALSE NEIGHBOUR: 'it returns false'. Refute it at one input. -/
def spoolNilWrong : ChangeSpec := { name := "spoolNil", fn := fun _ => fun
  | [d] => { results := [.lit (.bool false)], args := [d] }
  | _ => none }
def SpoolNilWrongFalsely : Prop := spoolNilRow.holds Try.pinned (OpenSpec.ofChange spoolNilWrong)

/- THE SECOND FORM. 'bulk': how many values and letters a reading holds, each counted each time it is reached (what is shared counts as often as it is met; a slice's spare places count too). A statement '..UptoSaid' is the law's where the arguments, and the package variables that the reading takes, are together of bulk at most 1048576: NARROWER than '..Said'. Prove '..Said' where nothing that the law and all that it calls make is longer than what came in: it says more and counts as full. Else prove '..UptoSaid'. A law counts once. -/
mutual
def uptoBulk {H : Type} : DataW H → Nat
  | .lit (.string bytes) => bytes.length + 1
  | .lit _ => 1
  | .nil => 1
  | .ptr d => uptoBulk d + 1
  | .slice elems spare => uptoBulkAll elems + uptoBulkAll spare + 1
  | .agg parts => uptoBulkAll parts + 1
  | .iface _ d => uptoBulk d + 1
  | .map entries => uptoBulkEntries entries + 1
  | .held _ => 1
def uptoBulkAll {H : Type} : List (DataW H) → Nat
  | [] => 0
  | d :: r => uptoBulk d + uptoBulkAll r
def uptoBulkEntries {H : Type} : List (Lit × DataW H) → Nat
  | [] => 0
  | x :: r => uptoBulkEntry x + uptoBulkEntries r
def uptoBulkEntry {H : Type} : Lit × DataW H → Nat
  | (.string bytes, d) => bytes.length + uptoBulk d + 1
  | (_, d) => uptoBulk d + 1
 end
def uptoSmall : (H : Type) → List (DataW H) → Bool := fun _ ds => decide (uptoBulkAll ds ≤ 1048576)
def OpenSpec.upto (s : _root_.Go.ChangeSpec) : _root_.Go.OpenSpec := { _root_.Go.OpenSpec.ofChange s with cond := some uptoSmall }

/-- 'emberslaw01.SpoolLeast', WHERE WHAT IT READS IS OF BULK AT MOST 1048576: true; the input reads as it did. -/
def spoolLeastUptoRow : OpenClaim := { program := "ytdmehbejfigaiaa", sum := "5b698cce7665b92764cca8608284728a46a1e20693c4af3054d601c24e6f5963", func := "embers/emberslaw01.SpoolLeast", spec := "spoolLeast", apart := false, narrowed := true }
def SpoolLeastUptoSaid : Prop := spoolLeastUptoRow.holds Try.pinned (OpenSpec.upto spoolLeastSpec)

/-- 'emberslaw01.SpoolParts', WHERE WHAT IT READS IS OF BULK AT MOST 1048576: true; the input reads as it did. -/
def spoolPartsUptoRow : OpenClaim := { program := "ytdmehbejfigaiaa", sum := "5b698cce7665b92764cca8608284728a46a1e20693c4af3054d601c24e6f5963", func := "embers/emberslaw01.SpoolParts", spec := "spoolParts", apart := false, narrowed := true }
def SpoolPartsUptoSaid : Prop := spoolPartsUptoRow.holds Try.pinned (OpenSpec.upto spoolPartsSpec)

/-- 'emberslaw01.SpoolPuts', WHERE WHAT IT READS IS OF BULK AT MOST 1048576: true; the input reads as it did. -/
def spoolPutsUptoRow : OpenClaim := { program := "ytdmehbejfigaiaa", sum := "5b698cce7665b92764cca8608284728a46a1e20693c4af3054d601c24e6f5963", func := "embers/emberslaw01.SpoolPuts", spec := "spoolPuts", apart := false, narrowed := true }
def SpoolPutsUptoSaid : Prop := spoolPutsUptoRow.holds Try.pinned (OpenSpec.upto spoolPutsSpec)

/-- 'emberslaw01.SpoolBack', WHERE WHAT IT READS IS OF BULK AT MOST 1048576: true; the input reads as it did. -/
def spoolBackUptoRow : OpenClaim := { program := "ytdmehbejfigaiaa", sum := "5b698cce7665b92764cca8608284728a46a1e20693c4af3054d601c24e6f5963", func := "embers/emberslaw01.SpoolBack", spec := "spoolBack", apart := false, narrowed := true }
def SpoolBackUptoSaid : Prop := spoolBackUptoRow.holds Try.pinned (OpenSpec.upto spoolBackSpec)

/-- 'emberslaw01.SpoolShort', WHERE WHAT IT READS IS OF BULK AT MOST 1048576: true; the input reads as it did. -/
def spoolShortUptoRow : OpenClaim := { program := "ytdmehbejfigaiaa", sum := "5b698cce7665b92764cca8608284728a46a1e20693c4af3054d601c24e6f5963", func := "embers/emberslaw01.SpoolShort", spec := "spoolShort", apart := false, narrowed := true }
def SpoolShortUptoSaid : Prop := spoolShortUptoRow.holds Try.pinned (OpenSpec.upto spoolShortSpec)

/-- 'emberslaw01.SpoolReads', WHERE WHAT IT READS IS OF BULK AT MOST 1048576: true; the input reads as it did. -/
def spoolReadsUptoRow : OpenClaim := { program := "ytdmehbejfigaiaa", sum := "5b698cce7665b92764cca8608284728a46a1e20693c4af3054d601c24e6f5963", func := "embers/emberslaw01.SpoolReads", spec := "spoolReads", apart := false, narrowed := true }
def SpoolReadsUptoSaid : Prop := spoolReadsUptoRow.holds Try.pinned (OpenSpec.upto spoolReadsSpec)

/-- 'emberslaw01.SpoolNil', WHERE WHAT IT READS IS OF BULK AT MOST 1048576: true; the input reads as it did. -/
def spoolNilUptoRow : OpenClaim := { program := "ytdmehbejfigaiaa", sum := "5b698cce7665b92764cca8608284728a46a1e20693c4af3054d601c24e6f5963", func := "embers/emberslaw01.SpoolNil", spec := "spoolNil", apart := false, narrowed := true }
def SpoolNilUptoSaid : Prop := spoolNilUptoRow.holds Try.pinned (OpenSpec.upto spoolNilSpec)

end Rows
end Go.Proofs.Ytdmehbejfigaiaa
