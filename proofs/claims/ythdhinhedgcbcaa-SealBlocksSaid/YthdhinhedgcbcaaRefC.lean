/- The walk of the document's Crc of layer 1. -/
import Derived.Test.YthdhinhedgcbcaaProg
import Derived.Test.YthdhinhedgcbcaaSum
namespace Go.Proofs.Ythdhinhedgcbcaa
open Go.RowKit
set_option linter.unusedVariables false

set_option maxHeartbeats 1000000 in
theorem rcrc_any (A : Option Addr) (l : List UInt8) (n c : Nat) (w : World) (hl : l.length = n) (hn : n ≤ 140737488351232) (hr : Rd w A l) :
    Calls Try.prog 24 #[.slice A n c] w fun e w' => e = .returned (.int .u32 (crc l)) ∧ w = w' := by
  subst hl
  go_enter Try.func24, Try.ntmps24
  go_wp2
  go_loop [3, 4] (fun t i => ∃ k : Nat, k ≤ l.length ∧ i = .int .i64 k ∧ t = .int .u32 (crcReg (l.take k)).toNat) (fun _ i => l.length - (intOf i).toNat)
  case atStart => exact ⟨0, Nat.zero_le _, rfl, by simp [crcReg]⟩
  case round =>
    obtain ⟨k, hk, rfl, rfl⟩ := hrel
    by_cases hlt : k < l.length
    · obtain ⟨b, off, rfl, _, hc⟩ := hr.at_ hlt
      have HS := Lib.hid (show crcReg (l.take (k + 1)) = crcBits 8 (crcReg (l.take k) ^^^ BitVec.ofNat 32 l[k].toNat) by
        rw [List.take_succ_eq_append_getElem hlt, crcReg_snoc]; rfl)
      have hck := u8_lt l[k]
      have hx : bits BinOp.xor IntKind.u32 ((crcReg (l.take k)).toNat : Int) (l[k].toNat : Int) = ((crcReg (l.take k) ^^^ BitVec.ofNat 32 l[k].toNat).toNat : Int) := by
        rw [u32_xor_nat _ _ (BitVec.isLt _) (by omega), BitVec.toNat_xor, BitVec.toNat_ofNat, Nat.mod_eq_of_lt (a := l[k].toNat) (by omega)]
      generalize crcReg (l.take k) ^^^ BitVec.ofNat 32 l[k].toNat = s0 at *
      have hrk := (crcReg (l.take k)).isLt
      generalize (crcReg (l.take k)).toNat = rk at *
      generalize l[k].toNat = ck at *
      go_wp2
      have Hx := Lib.hid hx
      clear hx
      go_loop [3, 5] (fun t i => ∃ k : Nat, k ≤ 8 ∧ i = .int .i64 k ∧ t = .int .u32 (crcBits k s0).toNat) (fun _ i => 8 - (intOf i).toNat)
      case atStart => exact ⟨0, Nat.zero_le _, rfl, rfl⟩
      case round =>
        obtain ⟨k2, hk2, rfl, rfl⟩ := hrel
        by_cases hlt2 : k2 < 8
        · have HB2 := Lib.hid (show (crcBits (k2 + 1) s0).toNat = ((crcBits k2 s0).toNat / 2) ^^^ (2197175160 * ((crcBits k2 s0).toNat % 2)) by rw [crcBits_succ, crcBit_toNat])
          have hs := (crcBits k2 s0).isLt
          generalize (crcBits k2 s0).toNat = s at *
          have e1 : bits BinOp.and IntKind.u32 (s : Int) 1 = ((s % 2 : Nat) : Int) := by
            have := u32_and_nat s 1 hs (by omega)
            rw [nat_mask1] at this
            exact this
          have hd2 : decide ((k2 : Int) < 8) = true := by simp; omega
          by_cases hodd : s % 2 = 1
          · rw [hodd] at e1
            have e2 : bits BinOp.xor IntKind.u32 ((s : Int) / 2) 2197175160 = ((s / 2 ^^^ 2197175160 : Nat) : Int) := by
              rw [show ((s : Int) / 2) = ((s / 2 : Nat) : Int) from by omega]
              exact u32_xor_nat _ 2197175160 (by omega) (by omega)
            have HO := Lib.hid hodd
            clear hodd
            go_wp2
            go_round
            case rel => exact ⟨k2 + 1, by omega, by go_num, by rw [HB2.out, HO.out]⟩
            case measure => simp [intOf]; omega
          · have h0 : s % 2 = 0 := by omega
            rw [h0] at e1
            have HO := Lib.hid h0
            clear hodd h0
            go_wp2
            go_round
            case rel => exact ⟨k2 + 1, by omega, by go_num, by rw [HB2.out, HO.out]; simp⟩
            case measure => simp [intOf]; omega
        · obtain rfl : k2 = 8 := by omega
          have hd2 : decide (((8 : Nat) : Int) < 8) = false := by simp
          go_wp2
          go_round
          case rel => exact ⟨k + 1, by omega, by go_num, by rw [HS.out]⟩
          case measure => simp [intOf]; omega
    · have HF := Lib.hid (show l.take k = l from List.take_of_length_le (by omega))
      go_wp2
      go_ret
      refine ⟨ret_int ?_, rfl⟩
      rw [HF.out]
      exact u32_not _
end Go.Proofs.Ythdhinhedgcbcaa
