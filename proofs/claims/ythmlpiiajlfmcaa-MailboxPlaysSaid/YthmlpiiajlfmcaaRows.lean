/-
  NARROWER THAN 'FOR EVERY INPUT', by the rows' own cells (each row's printed sentence says how): MailboxPlays: loops · MailboxFull: loops · MailboxNil: loops · MailboxAgain: loops.
  DERIVED. THE GIVEN ROWS OF THIS SEAT. 5 by the template 'for every input the law returns true; each argument reads behind the call as it read before'; 0 by the template 'total and deterministic' (their statements: YthmlpiiajlfmcaaTotals.lean).
  GIVEN WITH THE SEED: the statements are not yours to turn. If you find one false, say at which input.
  Laid BY PROGRAM, IN A SANDBOX (cutbox-rows.mjs): the forced cells as the released guide's own fill.sh prints them over the translation 188b2629219b3b37… (all of the seat's roots in one cut). By AI agents, Wed Nov 11 2026. No macro, syntax, notation, axiom, sorry.
-/
import Derived.Test.YthmlpiiajlfmcaaChecked
import GoSem.Claim
import GoSem.ClaimJoined
import GoSem.ClaimMapViews
import Derived.JoinedTies
import Derived.KernelRfl
namespace Go.Proofs.Ythmlpiiajlfmcaa
/- THE CELL 'sum', in the pinned program and in every row, IS THE sha256 OF THE DUMP (.gsa) THAT YthmlpiiajlfmcaaProg.lean LOADS. Nothing in Lean hashes anything: it is a label: what it is worth is what the hold of that sum in a sandbox is worth. -/
noncomputable def Try.pinned : Pinned := { name := "ythmlpiiajlfmcaa", sum := "188b2629219b3b374de8a550680c085f22ed52484a12f414a5567bea2dea0b55", checked := Try.checked }
namespace Rows
def none {H : Type} : Left H := { results := [], args := [] }

/-- 'emberslaw17.MailboxPlays': WHATEVER THE INPUT: true; the input reads as it did. -/
def mailboxPlaysSpec : ChangeSpec := { name := "mailboxPlays", fn := fun _ => fun
  | [d1, d2] => { results := [.lit (.bool true)], args := [d1, d2] }
  | _ => none }
def mailboxPlaysRow : OpenClaim := { program := "ythmlpiiajlfmcaa", sum := "188b2629219b3b374de8a550680c085f22ed52484a12f414a5567bea2dea0b55", func := "embers/emberslaw17.MailboxPlays", spec := "mailboxPlays", unfollowed := true, recurses := true, loops := true, apart := false }
def MailboxPlaysSaid : Prop := mailboxPlaysRow.holds Try.pinned (OpenSpec.ofChange mailboxPlaysSpec)

/-- ITS FALSE NEIGHBOUR: 'it returns false'. Refute it at one input. -/
def mailboxPlaysWrong : ChangeSpec := { name := "mailboxPlays", fn := fun _ => fun
  | [d1, d2] => { results := [.lit (.bool false)], args := [d1, d2] }
  | _ => none }
def MailboxPlaysWrongFalsely : Prop := mailboxPlaysRow.holds Try.pinned (OpenSpec.ofChange mailboxPlaysWrong)

/-- 'emberslaw17.MailboxFull': WHATEVER THE INPUT: true; the input reads as it did. -/
def mailboxFullSpec : ChangeSpec := { name := "mailboxFull", fn := fun _ => fun
  | [d1, d2] => { results := [.lit (.bool true)], args := [d1, d2] }
  | _ => none }
def mailboxFullRow : OpenClaim := { program := "ythmlpiiajlfmcaa", sum := "188b2629219b3b374de8a550680c085f22ed52484a12f414a5567bea2dea0b55", func := "embers/emberslaw17.MailboxFull", spec := "mailboxFull", unfollowed := true, recurses := true, loops := true, apart := false }
def MailboxFullSaid : Prop := mailboxFullRow.holds Try.pinned (OpenSpec.ofChange mailboxFullSpec)

/-- ITS FALSE NEIGHBOUR: 'it returns false'. Refute it at one input. -/
def mailboxFullWrong : ChangeSpec := { name := "mailboxFull", fn := fun _ => fun
  | [d1, d2] => { results := [.lit (.bool false)], args := [d1, d2] }
  | _ => none }
def MailboxFullWrongFalsely : Prop := mailboxFullRow.holds Try.pinned (OpenSpec.ofChange mailboxFullWrong)

/-- 'emberslaw17.MailboxOrder': WHATEVER THE INPUT: true; the input reads as it did. -/
def mailboxOrderSpec : ChangeSpec := { name := "mailboxOrder", fn := fun _ => fun
  | [d1, d2] => { results := [.lit (.bool true)], args := [d1, d2] }
  | _ => none }
def mailboxOrderRow : OpenClaim := { program := "ythmlpiiajlfmcaa", sum := "188b2629219b3b374de8a550680c085f22ed52484a12f414a5567bea2dea0b55", func := "embers/emberslaw17.MailboxOrder", spec := "mailboxOrder", unfollowed := true, recurses := true, apart := false }
def MailboxOrderSaid : Prop := mailboxOrderRow.holds Try.pinned (OpenSpec.ofChange mailboxOrderSpec)

/-- ITS FALSE NEIGHBOUR: 'it returns false'. Refute it at one input. -/
def mailboxOrderWrong : ChangeSpec := { name := "mailboxOrder", fn := fun _ => fun
  | [d1, d2] => { results := [.lit (.bool false)], args := [d1, d2] }
  | _ => none }
def MailboxOrderWrongFalsely : Prop := mailboxOrderRow.holds Try.pinned (OpenSpec.ofChange mailboxOrderWrong)

/-- 'emberslaw17.MailboxNil': WHATEVER THE INPUT: true; the input reads as it did. -/
def mailboxNilSpec : ChangeSpec := { name := "mailboxNil", fn := fun _ => fun
  | [d1, d2] => { results := [.lit (.bool true)], args := [d1, d2] }
  | _ => none }
def mailboxNilRow : OpenClaim := { program := "ythmlpiiajlfmcaa", sum := "188b2629219b3b374de8a550680c085f22ed52484a12f414a5567bea2dea0b55", func := "embers/emberslaw17.MailboxNil", spec := "mailboxNil", unfollowed := true, recurses := true, loops := true, apart := false }
def MailboxNilSaid : Prop := mailboxNilRow.holds Try.pinned (OpenSpec.ofChange mailboxNilSpec)

/-- ITS FALSE NEIGHBOUR: 'it returns false'. Refute it at one input. -/
def mailboxNilWrong : ChangeSpec := { name := "mailboxNil", fn := fun _ => fun
  | [d1, d2] => { results := [.lit (.bool false)], args := [d1, d2] }
  | _ => none }
def MailboxNilWrongFalsely : Prop := mailboxNilRow.holds Try.pinned (OpenSpec.ofChange mailboxNilWrong)

/-- 'emberslaw17.MailboxAgain': WHATEVER THE INPUT: true; the input reads as it did. -/
def mailboxAgainSpec : ChangeSpec := { name := "mailboxAgain", fn := fun _ => fun
  | [d] => { results := [.lit (.bool true)], args := [d] }
  | _ => none }
def mailboxAgainRow : OpenClaim := { program := "ythmlpiiajlfmcaa", sum := "188b2629219b3b374de8a550680c085f22ed52484a12f414a5567bea2dea0b55", func := "embers/emberslaw17.MailboxAgain", spec := "mailboxAgain", unfollowed := true, recurses := true, loops := true, apart := false }
def MailboxAgainSaid : Prop := mailboxAgainRow.holds Try.pinned (OpenSpec.ofChange mailboxAgainSpec)

/-- ITS FALSE NEIGHBOUR: 'it returns false'. Refute it at one input. -/
def mailboxAgainWrong : ChangeSpec := { name := "mailboxAgain", fn := fun _ => fun
  | [d] => { results := [.lit (.bool false)], args := [d] }
  | _ => none }
def MailboxAgainWrongFalsely : Prop := mailboxAgainRow.holds Try.pinned (OpenSpec.ofChange mailboxAgainWrong)

/- THE SECOND FORM. 'bulk': how many values and letters a reading holds, each counted each time it is reached (what is shared counts as often as it is met; a slice's spare places count too). A statement '..UptoSaid' is the law's where the arguments, and the package variables that the reading takes, are together of bulk at most 1048576: NARROWER than '..Said'. Prove '..Said' where nothing that the law and all that it calls make is longer than what came in: it says more and counts as full. Else prove '..UptoSaid'. A law counts once. -/
mutual
def uptoBulk {H : Type} : DataW H → Nat
  | .lit (.string bytes) => bytes.length + 1
  | .lit _ => 1
  | .nil => 1
  | .ptr d => uptoBulk d + 1
  | .slice elems spare => uptoBulkAll elems + uptoBulkAll spare + 1
  | .agg parts => uptoBulkAll parts + 1
  | .iface _ d => uptoBulk d + 1
  | .map entries => uptoBulkEntries entries + 1
  | .held _ => 1
def uptoBulkAll {H : Type} : List (DataW H) → Nat
  | [] => 0
  | d :: r => uptoBulk d + uptoBulkAll r
def uptoBulkEntries {H : Type} : List (Lit × DataW H) → Nat
  | [] => 0
  | x :: r => uptoBulkEntry x + uptoBulkEntries r
def uptoBulkEntry {H : Type} : Lit × DataW H → Nat
  | (.string bytes, d) => bytes.length + uptoBulk d + 1
  | (_, d) => uptoBulk d + 1
 end
def uptoSmall : (H : Type) → List (DataW H) → Bool := fun _ ds => decide (uptoBulkAll ds ≤ 1048576)
def OpenSpec.upto (s : _root_.Go.ChangeSpec) : _root_.Go.OpenSpec := { _root_.Go.OpenSpec.ofChange s with cond := some uptoSmall }

/-- 'emberslaw17.MailboxPlays', WHERE WHAT IT READS IS OF BULK AT MOST 1048576: true; the input reads as it did. -/
def mailboxPlaysUptoRow : OpenClaim := { program := "ythmlpiiajlfmcaa", sum := "188b2629219b3b374de8a550680c085f22ed52484a12f414a5567bea2dea0b55", func := "embers/emberslaw17.MailboxPlays", spec := "mailboxPlays", unfollowed := true, recurses := true, loops := true, apart := false, narrowed := true }
def MailboxPlaysUptoSaid : Prop := mailboxPlaysUptoRow.holds Try.pinned (OpenSpec.upto mailboxPlaysSpec)

/-- 'emberslaw17.MailboxFull', WHERE WHAT IT READS IS OF BULK AT MOST 1048576: true; the input reads as it did. -/
def mailboxFullUptoRow : OpenClaim := { program := "ythmlpiiajlfmcaa", sum := "188b2629219b3b374de8a550680c085f22ed52484a12f414a5567bea2dea0b55", func := "embers/emberslaw17.MailboxFull", spec := "mailboxFull", unfollowed := true, recurses := true, loops := true, apart := false, narrowed := true }
def MailboxFullUptoSaid : Prop := mailboxFullUptoRow.holds Try.pinned (OpenSpec.upto mailboxFullSpec)

/-- 'emberslaw17.MailboxOrder', WHERE WHAT IT READS IS OF BULK AT MOST 1048576: true; the input reads as it did. -/
def mailboxOrderUptoRow : OpenClaim := { program := "ythmlpiiajlfmcaa", sum := "188b2629219b3b374de8a550680c085f22ed52484a12f414a5567bea2dea0b55", func := "embers/emberslaw17.MailboxOrder", spec := "mailboxOrder", unfollowed := true, recurses := true, apart := false, narrowed := true }
def MailboxOrderUptoSaid : Prop := mailboxOrderUptoRow.holds Try.pinned (OpenSpec.upto mailboxOrderSpec)

/-- 'emberslaw17.MailboxNil', WHERE WHAT IT READS IS OF BULK AT MOST 1048576: true; the input reads as it did. -/
def mailboxNilUptoRow : OpenClaim := { program := "ythmlpiiajlfmcaa", sum := "188b2629219b3b374de8a550680c085f22ed52484a12f414a5567bea2dea0b55", func := "embers/emberslaw17.MailboxNil", spec := "mailboxNil", unfollowed := true, recurses := true, loops := true, apart := false, narrowed := true }
def MailboxNilUptoSaid : Prop := mailboxNilUptoRow.holds Try.pinned (OpenSpec.upto mailboxNilSpec)

/-- 'emberslaw17.MailboxAgain', WHERE WHAT IT READS IS OF BULK AT MOST 1048576: true; the input reads as it did. -/
def mailboxAgainUptoRow : OpenClaim := { program := "ythmlpiiajlfmcaa", sum := "188b2629219b3b374de8a550680c085f22ed52484a12f414a5567bea2dea0b55", func := "embers/emberslaw17.MailboxAgain", spec := "mailboxAgain", unfollowed := true, recurses := true, loops := true, apart := false, narrowed := true }
def MailboxAgainUptoSaid : Prop := mailboxAgainUptoRow.holds Try.pinned (OpenSpec.upto mailboxAgainSpec)

end Rows
end Go.Proofs.Ythmlpiiajlfmcaa
