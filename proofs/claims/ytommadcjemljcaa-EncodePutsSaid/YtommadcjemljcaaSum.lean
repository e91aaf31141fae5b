/- The walk of spool.Sum. -/
import Derived.Test.YtommadcjemljcaaProg
import Derived.Test.YtommadcjemljcaaLibB
import Derived.Test.YtommadcjemljcaaCrc
namespace Go.Proofs.Ytommadcjemljcaa
open Go.RowKit
set_option linter.unusedVariables false

theorem u32_step (s : Nat) (hs : s < 4294967296) : bits BinOp.xor IntKind.u32 ((s : Int) / 2) (2197175160 * bits BinOp.and IntKind.u32 (s : Int) 1 % 4294967296) = (((s / 2) ^^^ (2197175160 * (s % 2)) : Nat) : Int) := by
  have e1 : bits BinOp.and IntKind.u32 (s : Int) 1 = ((s % 2 : Nat) : Int) := by
    have := u32_and_nat s 1 hs (by omega)
    rw [nat_mask1] at this
    exact this
  have e2 : 2197175160 * ((s % 2 : Nat) : Int) % 4294967296 = ((2197175160 * (s % 2) : Nat) : Int) := by omega
  rw [e1, e2, show ((s : Int) / 2) = ((s / 2 : Nat) : Int) from by omega, u32_xor_nat _ _ (by omega) (by omega)]

theorem u32_not (s : BitVec 32) : bits BinOp.xor IntKind.u32 IntKind.u32.max (s.toNat : Int) = ((~~~ s).toNat : Int) := by
  have h : IntKind.u32.max = ((4294967295 : Nat) : Int) := by decide
  rw [h, u32_xor_nat _ _ (by omega) s.isLt]
  have h2 : ~~~ s = 4294967295#32 ^^^ s := BitVec.not_def
  rw [h2, BitVec.toNat_xor]
  rfl

end Go.Proofs.Ytommadcjemljcaa
