/-
  No cell of these rows narrows 'for every input' (looked for: loops, veiled, ifaces, maps, wideKeys, modest, calm, conditions, laid).
  DERIVED. THE GIVEN ROWS OF THIS SEAT. 5 by the template 'for every input the law returns true; each argument reads behind the call as it read before'; 0 by the template 'total and deterministic' (their statements: YthdhinhedgcbcaaTotals.lean).
  GIVEN WITH THE SEED: the statements are not yours to turn. If you find one false, say at which input.
  Laid BY PROGRAM, IN A SANDBOX (cutbox-rows.mjs): the forced cells as the released guide's own fill.sh prints them over the translation 017bb37f37bdf4ba… (all of the seat's roots in one cut). By AI agents, Wed Nov 11 2026. No macro, syntax, notation, axiom, sorry.
-/
import Derived.Test.YthdhinhedgcbcaaChecked
import GoSem.Claim
import GoSem.ClaimJoined
import GoSem.ClaimMapViews
import Derived.JoinedTies
import Derived.KernelRfl
namespace Go.Proofs.Ythdhinhedgcbcaa
/- THE CELL 'sum', in the pinned program and in every row, IS THE sha256 OF THE DUMP (.gsa) THAT YthdhinhedgcbcaaProg.lean LOADS. Nothing in Lean hashes anything: it is a label: what it is worth is what the hold of that sum in a sandbox is worth. -/
noncomputable def Try.pinned : Pinned := { name := "ythdhinhedgcbcaa", sum := "017bb37f37bdf4ba3fcf757b6e6b72ff5060a9e61b756ec4944ff604e1032719", checked := Try.checked }
namespace Rows
def none {H : Type} : Left H := { results := [], args := [] }

/-- 'emberslaw03.SealTurned': WHATEVER THE INPUT: true; the input reads as it did. -/
def sealTurnedSpec : ChangeSpec := { name := "sealTurned", fn := fun _ => fun
  | [d1, d2, d3, d4] => { results := [.lit (.bool true)], args := [d1, d2, d3, d4] }
  | _ => none }
def sealTurnedRow : OpenClaim := { program := "ythdhinhedgcbcaa", sum := "017bb37f37bdf4ba3fcf757b6e6b72ff5060a9e61b756ec4944ff604e1032719", func := "embers/emberslaw03.SealTurned", spec := "sealTurned", apart := false }
def SealTurnedSaid : Prop := sealTurnedRow.holds Try.pinned (OpenSpec.ofChange sealTurnedSpec)

/-- ITS FALSE NEIGHBOUR: 'it returns false'. Refute it at one input. -/
def sealTurnedWrong : ChangeSpec := { name := "sealTurned", fn := fun _ => fun
  | [d1, d2, d3, d4] => { results := [.lit (.bool false)], args := [d1, d2, d3, d4] }
  | _ => none }
def SealTurnedWrongFalsely : Prop := sealTurnedRow.holds Try.pinned (OpenSpec.ofChange sealTurnedWrong)

/-- 'emberslaw03.SealUnlike': WHATEVER THE INPUT: true; the input reads as it did. -/
def sealUnlikeSpec : ChangeSpec := { name := "sealUnlike", fn := fun _ => fun
  | [d1, d2, d3, d4] => { results := [.lit (.bool true)], args := [d1, d2, d3, d4] }
  | _ => none }
def sealUnlikeRow : OpenClaim := { program := "ythdhinhedgcbcaa", sum := "017bb37f37bdf4ba3fcf757b6e6b72ff5060a9e61b756ec4944ff604e1032719", func := "embers/emberslaw03.SealUnlike", spec := "sealUnlike", apart := false }
def SealUnlikeSaid : Prop := sealUnlikeRow.holds Try.pinned (OpenSpec.ofChange sealUnlikeSpec)

/-- ITS FALSE NEIGHBOUR: 'it returns false'. Refute it at one input. -/
def sealUnlikeWrong : ChangeSpec := { name := "sealUnlike", fn := fun _ => fun
  | [d1, d2, d3, d4] => { results := [.lit (.bool false)], args := [d1, d2, d3, d4] }
  | _ => none }
def SealUnlikeWrongFalsely : Prop := sealUnlikeRow.holds Try.pinned (OpenSpec.ofChange sealUnlikeWrong)

/-- 'emberslaw03.SealBlocks': WHATEVER THE INPUT: true; the input reads as it did. -/
def sealBlocksSpec : ChangeSpec := { name := "sealBlocks", fn := fun _ => fun
  | [d1, d2, d3] => { results := [.lit (.bool true)], args := [d1, d2, d3] }
  | _ => none }
def sealBlocksRow : OpenClaim := { program := "ythdhinhedgcbcaa", sum := "017bb37f37bdf4ba3fcf757b6e6b72ff5060a9e61b756ec4944ff604e1032719", func := "embers/emberslaw03.SealBlocks", spec := "sealBlocks", unfollowed := true, recurses := true, apart := false }
def SealBlocksSaid : Prop := sealBlocksRow.holds Try.pinned (OpenSpec.ofChange sealBlocksSpec)

/-- ITS FALSE NEIGHBOUR: 'it returns false'. Refute it at one input. -/
def sealBlocksWrong : ChangeSpec := { name := "sealBlocks", fn := fun _ => fun
  | [d1, d2, d3] => { results := [.lit (.bool false)], args := [d1, d2, d3] }
  | _ => none }
def SealBlocksWrongFalsely : Prop := sealBlocksRow.holds Try.pinned (OpenSpec.ofChange sealBlocksWrong)

/-- 'emberslaw03.SealBack': WHATEVER THE INPUT: true; the input reads as it did. -/
def sealBackSpec : ChangeSpec := { name := "sealBack", fn := fun _ => fun
  | [d1, d2, d3] => { results := [.lit (.bool true)], args := [d1, d2, d3] }
  | _ => none }
def sealBackRow : OpenClaim := { program := "ythdhinhedgcbcaa", sum := "017bb37f37bdf4ba3fcf757b6e6b72ff5060a9e61b756ec4944ff604e1032719", func := "embers/emberslaw03.SealBack", spec := "sealBack", unfollowed := true, recurses := true, apart := false }
def SealBackSaid : Prop := sealBackRow.holds Try.pinned (OpenSpec.ofChange sealBackSpec)

/-- ITS FALSE NEIGHBOUR: 'it returns false'. Refute it at one input. -/
def sealBackWrong : ChangeSpec := { name := "sealBack", fn := fun _ => fun
  | [d1, d2, d3] => { results := [.lit (.bool false)], args := [d1, d2, d3] }
  | _ => none }
def SealBackWrongFalsely : Prop := sealBackRow.holds Try.pinned (OpenSpec.ofChange sealBackWrong)

/-- 'emberslaw03.SealRoom': WHATEVER THE INPUT: true; the input reads as it did. -/
def sealRoomSpec : ChangeSpec := { name := "sealRoom", fn := fun _ => fun
  | [d1, d2] => { results := [.lit (.bool true)], args := [d1, d2] }
  | _ => none }
def sealRoomRow : OpenClaim := { program := "ythdhinhedgcbcaa", sum := "017bb37f37bdf4ba3fcf757b6e6b72ff5060a9e61b756ec4944ff604e1032719", func := "embers/emberslaw03.SealRoom", spec := "sealRoom", unfollowed := true, recurses := true, apart := false }
def SealRoomSaid : Prop := sealRoomRow.holds Try.pinned (OpenSpec.ofChange sealRoomSpec)

/-- ITS FALSE NEIGHBOUR: 'it returns false'. Refute it at one input. -/
def sealRoomWrong : ChangeSpec := { name := "sealRoom", fn := fun _ => fun
  | [d1, d2] => { results := [.lit (.bool false)], args := [d1, d2] }
  | _ => none }
def SealRoomWrongFalsely : Prop := sealRoomRow.holds Try.pinned (OpenSpec.ofChange sealRoomWrong)

/- THE SECOND FORM. 'bulk': how many values and letters a reading holds, each counted each time it is reached (what is shared counts as often as it is met; a slice's spare places count too). A statement '..UptoSaid' is the law's where the arguments, and the package variables that the reading takes, are together of bulk at most 1048576: NARROWER than '..Said'. Prove '..Said' where nothing that the law and all that it calls make is longer than what came in: it says more and counts as full. Else prove '..UptoSaid'. A law counts once. -/
mutual
def uptoBulk {H : Type} : DataW H → Nat
  | .lit (.string bytes) => bytes.length + 1
  | .lit _ => 1
  | .nil => 1
  | .ptr d => uptoBulk d + 1
  | .slice elems spare => uptoBulkAll elems + uptoBulkAll spare + 1
  | .agg parts => uptoBulkAll parts + 1
  | .iface _ d => uptoBulk d + 1
  | .map entries => uptoBulkEntries entries + 1
  | .held _ => 1
def uptoBulkAll {H : Type} : List (DataW H) → Nat
  | [] => 0
  | d :: r => uptoBulk d + uptoBulkAll r
def uptoBulkEntries {H : Type} : List (Lit × DataW H) → Nat
  | [] => 0
  | x :: r => uptoBulkEntry x + uptoBulkEntries r
def uptoBulkEntry {H : Type} : Lit × DataW H → Nat
  | (.string bytes, d) => bytes.length + uptoBulk d + 1
  | (_, d) => uptoBulk d + 1
 end
def uptoSmall : (H : Type) → List (DataW H) → Bool := fun _ ds => decide (uptoBulkAll ds ≤ 1048576)
def OpenSpec.upto (s : _root_.Go.ChangeSpec) : _root_.Go.OpenSpec := { _root_.Go.OpenSpec.ofChange s with cond := some uptoSmall }

/-- 'emberslaw03.SealTurned', WHERE WHAT IT READS IS OF BULK AT MOST 1048576: true; the input reads as it did. -/
def sealTurnedUptoRow : OpenClaim := { program := "ythdhinhedgcbcaa", sum := "017bb37f37bdf4ba3fcf757b6e6b72ff5060a9e61b756ec4944ff604e1032719", func := "embers/emberslaw03.SealTurned", spec := "sealTurned", apart := false, narrowed := true }
def SealTurnedUptoSaid : Prop := sealTurnedUptoRow.holds Try.pinned (OpenSpec.upto sealTurnedSpec)

/-- 'emberslaw03.SealUnlike', WHERE WHAT IT READS IS OF BULK AT MOST 1048576: true; the input reads as it did. -/
def sealUnlikeUptoRow : OpenClaim := { program := "ythdhinhedgcbcaa", sum := "017bb37f37bdf4ba3fcf757b6e6b72ff5060a9e61b756ec4944ff604e1032719", func := "embers/emberslaw03.SealUnlike", spec := "sealUnlike", apart := false, narrowed := true }
def SealUnlikeUptoSaid : Prop := sealUnlikeUptoRow.holds Try.pinned (OpenSpec.upto sealUnlikeSpec)

/-- 'emberslaw03.SealBlocks', WHERE WHAT IT READS IS OF BULK AT MOST 1048576: true; the input reads as it did. -/
def sealBlocksUptoRow : OpenClaim := { program := "ythdhinhedgcbcaa", sum := "017bb37f37bdf4ba3fcf757b6e6b72ff5060a9e61b756ec4944ff604e1032719", func := "embers/emberslaw03.SealBlocks", spec := "sealBlocks", unfollowed := true, recurses := true, apart := false, narrowed := true }
def SealBlocksUptoSaid : Prop := sealBlocksUptoRow.holds Try.pinned (OpenSpec.upto sealBlocksSpec)

/-- 'emberslaw03.SealBack', WHERE WHAT IT READS IS OF BULK AT MOST 1048576: true; the input reads as it did. -/
def sealBackUptoRow : OpenClaim := { program := "ythdhinhedgcbcaa", sum := "017bb37f37bdf4ba3fcf757b6e6b72ff5060a9e61b756ec4944ff604e1032719", func := "embers/emberslaw03.SealBack", spec := "sealBack", unfollowed := true, recurses := true, apart := false, narrowed := true }
def SealBackUptoSaid : Prop := sealBackUptoRow.holds Try.pinned (OpenSpec.upto sealBackSpec)

/-- 'emberslaw03.SealRoom', WHERE WHAT IT READS IS OF BULK AT MOST 1048576: true; the input reads as it did. -/
def sealRoomUptoRow : OpenClaim := { program := "ythdhinhedgcbcaa", sum := "017bb37f37bdf4ba3fcf757b6e6b72ff5060a9e61b756ec4944ff604e1032719", func := "embers/emberslaw03.SealRoom", spec := "sealRoom", unfollowed := true, recurses := true, apart := false, narrowed := true }
def SealRoomUptoSaid : Prop := sealRoomUptoRow.holds Try.pinned (OpenSpec.upto sealRoomSpec)

end Rows
end Go.Proofs.Ythdhinhedgcbcaa
