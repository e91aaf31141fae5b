/- The walk of spool.Sum. -/
import Derived.Test.YtcnhfbckaacalaaProg
import Derived.Test.YtcnhfbckaacalaaLibB
import Derived.Test.YtcnhfbckaacalaaCrc
namespace Go.Proofs.Ytcnhfbckaacalaa
open Go.RowKit
set_option linter.unusedVariables false

theorem u32_step (s : Nat) (hs : s < 4294967296) : bits BinOp.xor IntKind.u32 ((s : Int) / 2) (2197175160 * bits BinOp.and IntKind.u32 (s : Int) 1 % 4294967296) = (((s / 2) ^^^ (2197175160 * (s % 2)) : Nat) : Int) := by
  have e1 : bits BinOp.and IntKind.u32 (s : Int) 1 = ((s % 2 : Nat) : Int) := by
    have := u32_and_nat s 1 hs (by omega)
    rw [nat_mask1] at this
    exact this
  have e2 : 2197175160 * ((s % 2 : Nat) : Int) % 4294967296 = ((2197175160 * (s % 2) : Nat) : Int) := by omega
  rw [e1, e2, show ((s : Int) / 2) = ((s / 2 : Nat) : Int) from by omega, u32_xor_nat _ _ (by omega) (by omega)]

theorem u32_not (s : BitVec 32) : bits BinOp.xor IntKind.u32 IntKind.u32.max (s.toNat : Int) = ((~~~ s).toNat : Int) := by
  have h : IntKind.u32.max = ((4294967295 : Nat) : Int) := by decide
  rw [h, u32_xor_nat _ _ (by omega) s.isLt]
  have h2 : ~~~ s = 4294967295#32 ^^^ s := BitVec.not_def
  rw [h2, BitVec.toNat_xor]
  rfl

set_option maxHeartbeats 1000000 in
theorem sum_any (A : Option Addr) (ls : List (List UInt8)) (l : List UInt8) (m c : Nat) (w : World) (hf : ls.flatten = l) (hm : ls.length = m) (hm2 : m ≤ 65536) (hn : l.length ≤ 140737488351232) (h : RdL w A ls) :
    Calls Try.prog 85 #[.slice A m c] w fun e w' => e = .returned (.int .u32 (crc l)) ∧ Below w.heap.size w w' := by
  have HC := Lib.hid (concat_is A ls l m c w hf hm hm2 hn h)
  clear hf hm h
  go_enter Try.func85, Try.ntmps85
  go_wp2_with (go_at_call 58; refine HC.out.mono ?_; rintro e w1 ⟨v1, rfl, hown1, hb1⟩; obtain ⟨B, cB, rfl, hr1, hl1, _⟩ := own_rd hown1)
  have HB := Lib.hid hb1
  clear hown1 hl1 hb1
  go_loop [3, 9] (fun t i => ∃ k : Nat, k ≤ l.length ∧ i = .int .i64 k ∧ t = .int .u32 (crcReg (l.take k)).toNat) (fun _ i => l.length - (intOf i).toNat)
  case atStart => exact ⟨0, Nat.zero_le _, rfl, by simp [crcReg]⟩
  case round =>
    obtain ⟨k, hk, rfl, rfl⟩ := hrel
    by_cases hlt : k < l.length
    · obtain ⟨b, off, rfl, _, hc⟩ := hr1.at_ hlt
      have HS := Lib.hid (show crcReg (l.take (k + 1)) = crcBits 8 (crcReg (l.take k) ^^^ BitVec.ofNat 32 l[k].toNat) by
        rw [List.take_succ_eq_append_getElem hlt, crcReg_snoc]; rfl)
      have hck := u8_lt l[k]
      have hx : bits BinOp.xor IntKind.u32 ((crcReg (l.take k)).toNat : Int) (l[k].toNat : Int) = ((crcReg (l.take k) ^^^ BitVec.ofNat 32 l[k].toNat).toNat : Int) := by
        rw [u32_xor_nat _ _ (BitVec.isLt _) (by omega), BitVec.toNat_xor, BitVec.toNat_ofNat, Nat.mod_eq_of_lt (a := l[k].toNat) (by omega)]
      generalize crcReg (l.take k) ^^^ BitVec.ofNat 32 l[k].toNat = s0 at *
      have hrk := (crcReg (l.take k)).isLt
      generalize (crcReg (l.take k)).toNat = rk at *
      generalize l[k].toNat = ck at *
      go_wp2
      have Hx := Lib.hid hx
      clear hx
      go_loop [3, 17] (fun t i => ∃ k : Nat, k ≤ 8 ∧ i = .int .i64 k ∧ t = .int .u32 (crcBits k s0).toNat) (fun _ i => 8 - (intOf i).toNat)
      case atStart => exact ⟨0, Nat.zero_le _, rfl, rfl⟩
      case round =>
        obtain ⟨k2, hk2, rfl, rfl⟩ := hrel
        by_cases hlt2 : k2 < 8
        · have HB2 := Lib.hid (show (crcBits (k2 + 1) s0).toNat = ((crcBits k2 s0).toNat / 2) ^^^ (2197175160 * ((crcBits k2 s0).toNat % 2)) by rw [crcBits_succ, crcBit_toNat])
          have hs := (crcBits k2 s0).isLt
          generalize (crcBits k2 s0).toNat = s at *
          go_wp2
          go_round
          case rel => exact ⟨k2 + 1, by omega, by go_num, by rw [HB2.out, ← u32_step s hs]⟩
          case measure => simp [intOf]; omega
        · obtain rfl : k2 = 8 := by omega
          go_wp2
          go_round
          case rel => exact ⟨k + 1, by omega, by go_num, by rw [HS.out]⟩
          case measure => simp [intOf]; omega
    · have HF := Lib.hid (show l.take k = l from List.take_of_length_le (by omega))
      go_wp2
      go_ret
      refine ⟨ret_int ?_, HB.out⟩
      rw [HF.out]
      exact u32_not _
end Go.Proofs.Ytcnhfbckaacalaa
