/-
  No cell of these rows narrows 'for every input' (looked for: loops, veiled, ifaces, maps, wideKeys, modest, calm, conditions, laid).
  DERIVED. THE GIVEN ROWS OF THIS SEAT. 4 by the template 'for every input the law returns true; each argument reads behind the call as it read before'; 0 by the template 'total and deterministic' (their statements: YtfkolemkmhcbfaaTotals.lean).
  GIVEN WITH THE SEED: the statements are not yours to turn. If you find one false, say at which input.
  Laid BY PROGRAM, IN A SANDBOX (cutbox-rows.mjs): the forced cells as the released guide's own fill.sh prints them over the translation 5556519f93696bd0… (all of the seat's roots in one cut). By AI agents, Wed Nov 11 2026. No macro, syntax, notation, axiom, sorry.
-/
import Derived.Test.YtfkolemkmhcbfaaChecked
import GoSem.Claim
import GoSem.ClaimJoined
import GoSem.ClaimMapViews
import Derived.JoinedTies
import Derived.KernelRfl
namespace Go.Proofs.Ytfkolemkmhcbfaa
/- THE CELL 'sum', in the pinned program and in every row, IS THE sha256 OF THE DUMP (.gsa) THAT YtfkolemkmhcbfaaProg.lean LOADS. Nothing in Lean hashes anything: it is a label: what it is worth is what the hold of that sum in a sandbox is worth. -/
noncomputable def Try.pinned : Pinned := { name := "ytfkolemkmhcbfaa", sum := "5556519f93696bd0ccb4d93b7891f573a52e751ffa968945983bc855925804b6", checked := Try.checked }
namespace Rows
def none {H : Type} : Left H := { results := [], args := [] }

/-- 'emberslaw19.NamesPlays': WHATEVER THE INPUT: true; the input reads as it did. -/
def namesPlaysSpec : ChangeSpec := { name := "namesPlays", fn := fun _ => fun
  | [d1, d2] => { results := [.lit (.bool true)], args := [d1, d2] }
  | _ => none }
def namesPlaysRow : OpenClaim := { program := "ytfkolemkmhcbfaa", sum := "5556519f93696bd0ccb4d93b7891f573a52e751ffa968945983bc855925804b6", func := "embers/emberslaw19.NamesPlays", spec := "namesPlays", unfollowed := true, recurses := true, apart := false }
def NamesPlaysSaid : Prop := namesPlaysRow.holds Try.pinned (OpenSpec.ofChange namesPlaysSpec)

/-- ITS FALSE NEIGHBOUR: 'it returns false'. Refute it at one input. -/
def namesPlaysWrong : ChangeSpec := { name := "namesPlays", fn := fun _ => fun
  | [d1, d2] => { results := [.lit (.bool false)], args := [d1, d2] }
  | _ => none }
def NamesPlaysWrongFalsely : Prop := namesPlaysRow.holds Try.pinned (OpenSpec.ofChange namesPlaysWrong)

/-- 'emberslaw19.NamesOnce': WHATEVER THE INPUT: true; the input reads as it did. -/
def namesOnceSpec : ChangeSpec := { name := "namesOnce", fn := fun _ => fun
  | [d] => { results := [.lit (.bool true)], args := [d] }
  | _ => none }
def namesOnceRow : OpenClaim := { program := "ytfkolemkmhcbfaa", sum := "5556519f93696bd0ccb4d93b7891f573a52e751ffa968945983bc855925804b6", func := "embers/emberslaw19.NamesOnce", spec := "namesOnce", unfollowed := true, recurses := true, apart := false }
def NamesOnceSaid : Prop := namesOnceRow.holds Try.pinned (OpenSpec.ofChange namesOnceSpec)

/-- ITS FALSE NEIGHBOUR: 'it returns false'. Refute it at one input. -/
def namesOnceWrong : ChangeSpec := { name := "namesOnce", fn := fun _ => fun
  | [d] => { results := [.lit (.bool false)], args := [d] }
  | _ => none }
def NamesOnceWrongFalsely : Prop := namesOnceRow.holds Try.pinned (OpenSpec.ofChange namesOnceWrong)

/-- 'emberslaw19.NamesNil': WHATEVER THE INPUT: true; the input reads as it did. -/
def namesNilSpec : ChangeSpec := { name := "namesNil", fn := fun _ => fun
  | [d1, d2] => { results := [.lit (.bool true)], args := [d1, d2] }
  | _ => none }
def namesNilRow : OpenClaim := { program := "ytfkolemkmhcbfaa", sum := "5556519f93696bd0ccb4d93b7891f573a52e751ffa968945983bc855925804b6", func := "embers/emberslaw19.NamesNil", spec := "namesNil", unfollowed := true, recurses := true, apart := false }
def NamesNilSaid : Prop := namesNilRow.holds Try.pinned (OpenSpec.ofChange namesNilSpec)

/-- ITS FALSE NEIGHBOUR: 'it returns false'. Refute it at one input. -/
def namesNilWrong : ChangeSpec := { name := "namesNil", fn := fun _ => fun
  | [d1, d2] => { results := [.lit (.bool false)], args := [d1, d2] }
  | _ => none }
def NamesNilWrongFalsely : Prop := namesNilRow.holds Try.pinned (OpenSpec.ofChange namesNilWrong)

/-- 'emberslaw19.NamesAgain': WHATEVER THE INPUT: true; the input reads as it did. -/
def namesAgainSpec : ChangeSpec := { name := "namesAgain", fn := fun _ => fun
  | [d1, d2, d3] => { results := [.lit (.bool true)], args := [d1, d2, d3] }
  | _ => none }
def namesAgainRow : OpenClaim := { program := "ytfkolemkmhcbfaa", sum := "5556519f93696bd0ccb4d93b7891f573a52e751ffa968945983bc855925804b6", func := "embers/emberslaw19.NamesAgain", spec := "namesAgain", unfollowed := true, recurses := true, apart := false }
def NamesAgainSaid : Prop := namesAgainRow.holds Try.pinned (OpenSpec.ofChange namesAgainSpec)

/-- ITS FALSE NEIGHBOUR: 'it returns false'. Refute it at one input. -/
def namesAgainWrong : ChangeSpec := { name := "namesAgain", fn := fun _ => fun
  | [d1, d2, d3] => { results := [.lit (.bool false)], args := [d1, d2, d3] }
  | _ => none }
def NamesAgainWrongFalsely : Prop := namesAgainRow.holds Try.pinned (OpenSpec.ofChange namesAgainWrong)

/- THE SECOND FORM. 'bulk': how many values and letters a reading holds, each counted each time it is reached (what is shared counts as often as it is met; a slice's spare places count too). A statement '..UptoSaid' is the law's where the arguments, and the package variables that the reading takes, are together of bulk at most 1048576: NARROWER than '..Said'. Prove '..Said' where nothing that the law and all that it calls make is longer than what came in: it says more and counts as full. Else prove '..UptoSaid'. A law counts once. -/
mutual
def uptoBulk {H : Type} : DataW H → Nat
  | .lit (.string bytes) => bytes.length + 1
  | .lit _ => 1
  | .nil => 1
  | .ptr d => uptoBulk d + 1
  | .slice elems spare => uptoBulkAll elems + uptoBulkAll spare + 1
  | .agg parts => uptoBulkAll parts + 1
  | .iface _ d => uptoBulk d + 1
  | .map entries => uptoBulkEntries entries + 1
  | .held _ => 1
def uptoBulkAll {H : Type} : List (DataW H) → Nat
  | [] => 0
  | d :: r => uptoBulk d + uptoBulkAll r
def uptoBulkEntries {H : Type} : List (Lit × DataW H) → Nat
  | [] => 0
  | x :: r => uptoBulkEntry x + uptoBulkEntries r
def uptoBulkEntry {H : Type} : Lit × DataW H → Nat
  | (.string bytes, d) => bytes.length + uptoBulk d + 1
  | (_, d) => uptoBulk d + 1
 end
def uptoSmall : (H : Type) → List (DataW H) → Bool := fun _ ds => decide (uptoBulkAll ds ≤ 1048576)
def OpenSpec.upto (s : _root_.Go.ChangeSpec) : _root_.Go.OpenSpec := { _root_.Go.OpenSpec.ofChange s with cond := some uptoSmall }

/-- 'emberslaw19.NamesPlays', WHERE WHAT IT READS IS OF BULK AT MOST 1048576: true; the input reads as it did. -/
def namesPlaysUptoRow : OpenClaim := { program := "ytfkolemkmhcbfaa", sum := "5556519f93696bd0ccb4d93b7891f573a52e751ffa968945983bc855925804b6", func := "embers/emberslaw19.NamesPlays", spec := "namesPlays", unfollowed := true, recurses := true, apart := false, narrowed := true }
def NamesPlaysUptoSaid : Prop := namesPlaysUptoRow.holds Try.pinned (OpenSpec.upto namesPlaysSpec)

/-- 'emberslaw19.NamesOnce', WHERE WHAT IT READS IS OF BULK AT MOST 1048576: true; the input reads as it did. -/
def namesOnceUptoRow : OpenClaim := { program := "ytfkolemkmhcbfaa", sum := "5556519f93696bd0ccb4d93b7891f573a52e751ffa968945983bc855925804b6", func := "embers/emberslaw19.NamesOnce", spec := "namesOnce", unfollowed := true, recurses := true, apart := false, narrowed := true }
def NamesOnceUptoSaid : Prop := namesOnceUptoRow.holds Try.pinned (OpenSpec.upto namesOnceSpec)

/-- 'emberslaw19.NamesNil', WHERE WHAT IT READS IS OF BULK AT MOST 1048576: true; the input reads as it did. -/
def namesNilUptoRow : OpenClaim := { program := "ytfkolemkmhcbfaa", sum := "5556519f93696bd0ccb4d93b7891f573a52e751ffa968945983bc855925804b6", func := "embers/emberslaw19.NamesNil", spec := "namesNil", unfollowed := true, recurses := true, apart := false, narrowed := true }
def NamesNilUptoSaid : Prop := namesNilUptoRow.holds Try.pinned (OpenSpec.upto namesNilSpec)

/-- 'emberslaw19.NamesAgain', WHERE WHAT IT READS IS OF BULK AT MOST 1048576: true; the input reads as it did. -/
def namesAgainUptoRow : OpenClaim := { program := "ytfkolemkmhcbfaa", sum := "5556519f93696bd0ccb4d93b7891f573a52e751ffa968945983bc855925804b6", func := "embers/emberslaw19.NamesAgain", spec := "namesAgain", unfollowed := true, recurses := true, apart := false, narrowed := true }
def NamesAgainUptoSaid : Prop := namesAgainUptoRow.holds Try.pinned (OpenSpec.upto namesAgainSpec)

end Rows
end Go.Proofs.Ytfkolemkmhcbfaa
