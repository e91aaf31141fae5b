/-
  NARROWER THAN 'FOR EVERY INPUT', by the rows' own cells (each row's printed sentence says how): ArithNumbers: loops · ArithLists: loops · ArithOrder: loops · ArithKinds: loops.
  DERIVED. THE GIVEN ROWS OF THIS SEAT. 4 by the template 'for every input the law returns true; each argument reads behind the call as it read before'; 0 by the template 'total and deterministic' (their statements: YtbpnlpjbjmojfaaTotals.lean).
  GIVEN WITH THE SEED: the statements are not yours to turn. If you find one false, say at which input.
  Laid BY PROGRAM, IN A SANDBOX (cutbox-rows.mjs): the forced cells as the released guide's own fill.sh prints them over the translation a31a55d4c9f97132… (all of the seat's roots in one cut). By AI agents, Wed Nov 11 2026. No macro, syntax, notation, axiom, sorry.
-/
import Derived.Test.YtbpnlpjbjmojfaaChecked
import GoSem.Claim
import GoSem.ClaimJoined
import GoSem.ClaimMapViews
import Derived.JoinedTies
import Derived.KernelRfl
namespace Go.Proofs.Ytbpnlpjbjmojfaa
/- THE CELL 'sum', in the pinned program and in every row, IS THE sha256 OF THE DUMP (.gsa) THAT YtbpnlpjbjmojfaaProg.lean LOADS. Nothing in Lean hashes anything: it is a label: what it is worth is what the hold of that sum in a sandbox is worth. -/
noncomputable def Try.pinned : Pinned := { name := "ytbpnlpjbjmojfaa", sum := "a31a55d4c9f97132ca52abd5878fa85e2c5c8a4651ffc77ed88b05763534a6e0", checked := Try.checked }
namespace Rows
def none {H : Type} : Left H := { results := [], args := [] }

/-- 'emberslaw14.ArithNumbers': WHATEVER THE INPUT: true; the input reads as it did. -/
def arithNumbersSpec : ChangeSpec := { name := "arithNumbers", fn := fun _ => fun
  | [d1, d2, d3, d4] => { results := [.lit (.bool true)], args := [d1, d2, d3, d4] }
  | _ => none }
def arithNumbersRow : OpenClaim := { program := "ytbpnlpjbjmojfaa", sum := "a31a55d4c9f97132ca52abd5878fa85e2c5c8a4651ffc77ed88b05763534a6e0", func := "embers/emberslaw14.ArithNumbers", spec := "arithNumbers", inPlace := ["internal/bytealg.abigen_runtime_cmpstring"], unfollowed := true, recurses := true, loops := true, apart := false }
def ArithNumbersSaid : Prop := arithNumbersRow.holds Try.pinned (OpenSpec.ofChange arithNumbersSpec)

/-- ITS FALSE NEIGHBOUR: 'it returns false'. Refute it at one input. -/
def arithNumbersWrong : ChangeSpec := { name := "arithNumbers", fn := fun _ => fun
  | [d1, d2, d3, d4] => { results := [.lit (.bool false)], args := [d1, d2, d3, d4] }
  | _ => none }
def ArithNumbersWrongFalsely : Prop := arithNumbersRow.holds Try.pinned (OpenSpec.ofChange arithNumbersWrong)

/-- 'emberslaw14.ArithLists': WHATEVER THE INPUT: true; the input reads as it did. -/
def arithListsSpec : ChangeSpec := { name := "arithLists", fn := fun _ => fun
  | [d1, d2] => { results := [.lit (.bool true)], args := [d1, d2] }
  | _ => none }
def arithListsRow : OpenClaim := { program := "ytbpnlpjbjmojfaa", sum := "a31a55d4c9f97132ca52abd5878fa85e2c5c8a4651ffc77ed88b05763534a6e0", func := "embers/emberslaw14.ArithLists", spec := "arithLists", inPlace := ["internal/bytealg.abigen_runtime_cmpstring"], unfollowed := true, recurses := true, loops := true, apart := false }
def ArithListsSaid : Prop := arithListsRow.holds Try.pinned (OpenSpec.ofChange arithListsSpec)

/-- ITS FALSE NEIGHBOUR: 'it returns false'. Refute it at one input. -/
def arithListsWrong : ChangeSpec := { name := "arithLists", fn := fun _ => fun
  | [d1, d2] => { results := [.lit (.bool false)], args := [d1, d2] }
  | _ => none }
def ArithListsWrongFalsely : Prop := arithListsRow.holds Try.pinned (OpenSpec.ofChange arithListsWrong)

/-- 'emberslaw14.ArithOrder': WHATEVER THE INPUT: true; the input reads as it did. -/
def arithOrderSpec : ChangeSpec := { name := "arithOrder", fn := fun _ => fun
  | [d1, d2] => { results := [.lit (.bool true)], args := [d1, d2] }
  | _ => none }
def arithOrderRow : OpenClaim := { program := "ytbpnlpjbjmojfaa", sum := "a31a55d4c9f97132ca52abd5878fa85e2c5c8a4651ffc77ed88b05763534a6e0", func := "embers/emberslaw14.ArithOrder", spec := "arithOrder", inPlace := ["internal/bytealg.abigen_runtime_cmpstring"], unfollowed := true, recurses := true, loops := true, apart := false }
def ArithOrderSaid : Prop := arithOrderRow.holds Try.pinned (OpenSpec.ofChange arithOrderSpec)

/-- ITS FALSE NEIGHBOUR: 'it returns false'. Refute it at one input. -/
def arithOrderWrong : ChangeSpec := { name := "arithOrder", fn := fun _ => fun
  | [d1, d2] => { results := [.lit (.bool false)], args := [d1, d2] }
  | _ => none }
def ArithOrderWrongFalsely : Prop := arithOrderRow.holds Try.pinned (OpenSpec.ofChange arithOrderWrong)

/-- 'emberslaw14.ArithKinds': WHATEVER THE INPUT: true; the input reads as it did. -/
def arithKindsSpec : ChangeSpec := { name := "arithKinds", fn := fun _ => fun
  | [d] => { results := [.lit (.bool true)], args := [d] }
  | _ => none }
def arithKindsRow : OpenClaim := { program := "ytbpnlpjbjmojfaa", sum := "a31a55d4c9f97132ca52abd5878fa85e2c5c8a4651ffc77ed88b05763534a6e0", func := "embers/emberslaw14.ArithKinds", spec := "arithKinds", inPlace := ["internal/bytealg.abigen_runtime_cmpstring"], unfollowed := true, recurses := true, loops := true, apart := false }
def ArithKindsSaid : Prop := arithKindsRow.holds Try.pinned (OpenSpec.ofChange arithKindsSpec)

/-- ITS FALSE NEIGHBOUR: 'it returns false'. Refute it at one input. -/
def arithKindsWrong : ChangeSpec := { name := "arithKinds", fn := fun _ => fun
  | [d] => { results := [.lit (.bool false)], args := [d] }
  | _ => none }
def ArithKindsWrongFalsely : Prop := arithKindsRow.holds Try.pinned (OpenSpec.ofChange arithKindsWrong)

/- THE SECOND FORM. 'bulk': how many values and letters a reading holds, each counted each time it is reached (what is shared counts as often as it is met; a slice's spare places count too). A statement '..UptoSaid' is the law's where the arguments, and the package variables that the reading takes, are together of bulk at most 1048576: NARROWER than '..Said'. Prove '..Said' where nothing that the law and all that it calls make is longer than what came in: it says more and counts as full. Else prove '..UptoSaid'. A law counts once. -/
mutual
def uptoBulk {H : Type} : DataW H → Nat
  | .lit (.string bytes) => bytes.length + 1
  | .lit _ => 1
  | .nil => 1
  | .ptr d => uptoBulk d + 1
  | .slice elems spare => uptoBulkAll elems + uptoBulkAll spare + 1
  | .agg parts => uptoBulkAll parts + 1
  | .iface _ d => uptoBulk d + 1
  | .map entries => uptoBulkEntries entries + 1
  | .held _ => 1
def uptoBulkAll {H : Type} : List (DataW H) → Nat
  | [] => 0
  | d :: r => uptoBulk d + uptoBulkAll r
def uptoBulkEntries {H : Type} : List (Lit × DataW H) → Nat
  | [] => 0
  | x :: r => uptoBulkEntry x + uptoBulkEntries r
def uptoBulkEntry {H : Type} : Lit × DataW H → Nat
  | (.string bytes, d) => bytes.length + uptoBulk d + 1
  | (_, d) => uptoBulk d + 1
 end
def uptoSmall : (H : Type) → List (DataW H) → Bool := fun _ ds => decide (uptoBulkAll ds ≤ 1048576)
def OpenSpec.upto (s : _root_.Go.ChangeSpec) : _root_.Go.OpenSpec := { _root_.Go.OpenSpec.ofChange s with cond := some uptoSmall }

/-- 'emberslaw14.ArithNumbers', WHERE WHAT IT READS IS OF BULK AT MOST 1048576: true; the input reads as it did. -/
def arithNumbersUptoRow : OpenClaim := { program := "ytbpnlpjbjmojfaa", sum := "a31a55d4c9f97132ca52abd5878fa85e2c5c8a4651ffc77ed88b05763534a6e0", func := "embers/emberslaw14.ArithNumbers", spec := "arithNumbers", inPlace := ["internal/bytealg.abigen_runtime_cmpstring"], unfollowed := true, recurses := true, loops := true, apart := false, narrowed := true }
def ArithNumbersUptoSaid : Prop := arithNumbersUptoRow.holds Try.pinned (OpenSpec.upto arithNumbersSpec)

/-- 'emberslaw14.ArithLists', WHERE WHAT IT READS IS OF BULK AT MOST 1048576: true; the input reads as it did. -/
def arithListsUptoRow : OpenClaim := { program := "ytbpnlpjbjmojfaa", sum := "a31a55d4c9f97132ca52abd5878fa85e2c5c8a4651ffc77ed88b05763534a6e0", func := "embers/emberslaw14.ArithLists", spec := "arithLists", inPlace := ["internal/bytealg.abigen_runtime_cmpstring"], unfollowed := true, recurses := true, loops := true, apart := false, narrowed := true }
def ArithListsUptoSaid : Prop := arithListsUptoRow.holds Try.pinned (OpenSpec.upto arithListsSpec)

/-- 'emberslaw14.ArithOrder', WHERE WHAT IT READS IS OF BULK AT MOST 1048576: true; the input reads as it did. -/
def arithOrderUptoRow : OpenClaim := { program := "ytbpnlpjbjmojfaa", sum := "a31a55d4c9f97132ca52abd5878fa85e2c5c8a4651ffc77ed88b05763534a6e0", func := "embers/emberslaw14.ArithOrder", spec := "arithOrder", inPlace := ["internal/bytealg.abigen_runtime_cmpstring"], unfollowed := true, recurses := true, loops := true, apart := false, narrowed := true }
def ArithOrderUptoSaid : Prop := arithOrderUptoRow.holds Try.pinned (OpenSpec.upto arithOrderSpec)

/-- 'emberslaw14.ArithKinds', WHERE WHAT IT READS IS OF BULK AT MOST 1048576: true; the input reads as it did. -/
def arithKindsUptoRow : OpenClaim := { program := "ytbpnlpjbjmojfaa", sum := "a31a55d4c9f97132ca52abd5878fa85e2c5c8a4651ffc77ed88b05763534a6e0", func := "embers/emberslaw14.ArithKinds", spec := "arithKinds", inPlace := ["internal/bytealg.abigen_runtime_cmpstring"], unfollowed := true, recurses := true, loops := true, apart := false, narrowed := true }
def ArithKindsUptoSaid : Prop := arithKindsUptoRow.holds Try.pinned (OpenSpec.upto arithKindsSpec)

end Rows
end Go.Proofs.Ytbpnlpjbjmojfaa
