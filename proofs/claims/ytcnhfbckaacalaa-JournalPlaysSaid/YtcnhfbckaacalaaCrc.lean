/- The sum of bytes (the cyclic sum of 32 bits of spool.Sum), as a plain function: what follows of it being linear. No program is named here. -/
import Derived.Test.YtcnhfbckaacalaaBase
import Derived.Laws.BitsAllLaws
namespace Go.Proofs.Ytcnhfbckaacalaa

/-- One bit of the sum. -/
def crcBit (s : BitVec 32) : BitVec 32 := (s >>> 1) ^^^ (if s.getLsbD 0 then 2197175160#32 else 0#32)
/-- k bits of it. -/
def crcBits : Nat → BitVec 32 → BitVec 32
  | 0, s => s
  | k + 1, s => crcBits k (crcBit s)
theorem crcBits_succ (k : Nat) (s : BitVec 32) : crcBits (k + 1) s = crcBit (crcBits k s) := by
  induction k generalizing s with
  | zero => rfl
  | succ k ih => exact ih (crcBit s)
/-- One byte. -/
def crcByte (s : BitVec 32) (c : UInt8) : BitVec 32 := crcBits 8 (s ^^^ BitVec.ofNat 32 c.toNat)
/-- The register behind bytes. -/
def crcReg (l : List UInt8) : BitVec 32 := l.foldl crcByte 4294967295#32
theorem crcReg_snoc (l : List UInt8) (c : UInt8) : crcReg (l ++ [c]) = crcByte (crcReg l) c := by simp [crcReg]
/-- The sum. -/
def crc (l : List UInt8) : Nat := (~~~ crcReg l).toNat

theorem crc_lt (l : List UInt8) : crc l < 4294967296 := (~~~ crcReg l).isLt

/-- The bit's step as the program reckons it. -/
theorem crcBit_toNat (s : BitVec 32) : (crcBit s).toNat = (s.toNat / 2) ^^^ (2197175160 * (s.toNat % 2)) := by
  unfold crcBit
  have h1 : (s >>> 1).toNat = s.toNat / 2 := by simp [BitVec.toNat_ushiftRight, Nat.shiftRight_eq_div_pow]
  have h2 : s.getLsbD 0 = decide (s.toNat % 2 = 1) := by simp [BitVec.getLsbD, Nat.testBit_zero]
  rw [h2]
  by_cases h : s.toNat % 2 = 1
  · simp [h, h1, BitVec.toNat_xor]
  · have h0 : s.toNat % 2 = 0 := by omega
    simp [h0, h1]
end Go.Proofs.Ytcnhfbckaacalaa
