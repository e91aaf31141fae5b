/- The walks of the small functions of layer 3: Room, told, lay; num. -/
import Derived.Test.YtcnhfbckaacalaaProg
import Derived.Test.YtcnhfbckaacalaaBase
namespace Go.Proofs.Ytcnhfbckaacalaa
open Go.RowKit
set_option linter.unusedVariables false

/-- 'shl 8, or a byte', on a number of 64 bits. -/
theorem or_byte_s (n c : Nat) (hn : n < 18446744073709551616) (hc : c < 256) :
    bits BinOp.or IntKind.u64 (IntKind.u64.wrap ((n : Int) * 256)) (c : Int) = ((n * 256 % 18446744073709551616 + c : Nat) : Int) := by
  have e1 : IntKind.u64.wrap ((n : Int) * 256) = ((n * 256 % 18446744073709551616 : Nat) : Int) := by
    simp only [IntKind.wrap, IntKind.bits, IntKind.signed]; simp
  rw [e1, u64_or_nat _ _ (by omega) (by omega), nat_join 8 _ _ (by omega) (by omega)]

set_option maxHeartbeats 400000 in
theorem told_any (A : Option Addr) (l : List UInt8) (n c : Nat) (w : World) (hl : l.length = n) (hn : n ≤ 65536) (h : Rd w A l) :
    Calls Try.prog 80 #[.slice A n c] w fun e w' => e = .returned (.int .u64 (toldN l)) ∧ w = w' := by
  have HL := Lib.hid hl
  clear hl
  go_enter Try.func80, Try.ntmps80
  go_wp2
  go_loop [2, 7] (fun t i => ∃ k : Nat, k ≤ n ∧ i = .int .i64 k ∧ t = .int .u64 (toldN (l.take k))) (fun _ i => n - (intOf i).toNat)
  case atStart => exact ⟨0, Nat.zero_le _, rfl, rfl⟩
  case round =>
    obtain ⟨k, hk, rfl, rfl⟩ := hrel
    by_cases hlt : k < n
    · have hkl : k < l.length := by rw [HL.out]; exact hlt
      obtain ⟨b, off, rfl, _, hc⟩ := h.at_ hkl
      have HS := Lib.hid (show toldN (l.take (k + 1)) = toldN (l.take k) * 256 % 18446744073709551616 + l[k].toNat by
        rw [← toldN_snoc, ← List.take_succ_eq_append_getElem hkl])
      have hck := u8_lt l[k]
      have htk := toldN_lt (l.take k)
      generalize l[k].toNat = ck at *
      generalize toldN (l.take k) = tk at *
      go_wp2
      go_round
      case rel => exact ⟨k + 1, by omega, by go_num, by rw [HS.out, or_byte_s _ _ htk hck]⟩
      case measure => simp [intOf]; omega
    · go_wp2
      go_ret
      exact ⟨ret_int (by rw [List.take_of_length_le (by rw [HL.out]; omega)]), rfl⟩

/-- What 'lay' has done after k rounds to the bytes of the block. -/
def laidTo (l : List UInt8) (off n x k : Nat) : List UInt8 := l.take (off + n - k) ++ be k x ++ l.drop (off + n)

theorem laidTo_length (l : List UInt8) (off n x k : Nat) (h : off + n ≤ l.length) (hk : k ≤ n) : (laidTo l off n x k).length = l.length := by
  simp [laidTo, be_length]; omega
theorem laidTo_zero (l : List UInt8) (off n x : Nat) : laidTo l off n x 0 = l := by simp [laidTo, be]
theorem laidTo_succ (l : List UInt8) (off n x k : Nat) (h : off + n ≤ l.length) (hk : k < n) :
    (laidTo l off n x k).set (off + (n - 1 - k)) (UInt8.ofNat (x / 256 ^ k)) = laidTo l off n x (k + 1) := by
  unfold laidTo
  have e : off + n - k = (off + n - (k + 1)) + 1 := by omega
  have hlt : off + n - (k + 1) < l.length := by omega
  rw [e, List.take_succ_eq_append_getElem hlt]
  rw [show off + (n - 1 - k) = off + n - (k + 1) from by omega]
  simp only [List.append_assoc, be]
  rw [List.set_append_right (h := by simp; omega)]
  simp [Nat.min_eq_left (Nat.le_of_lt hlt)]

theorem div_pow_succ (x k : Nat) : x / 256 ^ (k + 1) = x / 256 ^ k / 256 := by rw [Nat.pow_succ, Nat.div_div_eq_div_mul]

set_option maxHeartbeats 400000 in
theorem lay_any (g off n c : Nat) (l : List UInt8) (x : Nat) (w : World) (hb : Blk w g 5 (l.map bv).toArray) (hn : off + n ≤ l.length) (hn2 : n ≤ 65536) (hx : x < 18446744073709551616) :
    Calls Try.prog 84 #[.slice (some ⟨g, off, none⟩) n c, .int .u64 x] w fun e w' => e = .returned (.tuple #[]) ∧
      Blk w' g 5 ((laidTo l off n x n).map bv).toArray ∧ w.grownBy w' (some g) ∧ w'.heap.size = w.heap.size := by
  go_enter Try.func84, Try.ntmps84
  go_wp2
  go_loopw [1, 7] (fun t i wr => ∃ k : Nat, k ≤ n ∧ i = .int .i64 k ∧ t = .int .u64 (x / 256 ^ k : Nat) ∧ Blk wr g 5 ((laidTo l off n x k).map bv).toArray ∧ w.grownBy wr (some g) ∧ wr.heap.size = w.heap.size) (fun _ i _ => n - (intOf i).toNat)
  case atStart => exact ⟨0, Nat.zero_le _, rfl, by simp, by rw [laidTo_zero]; exact hb, grown_refl _ _, rfl⟩
  case round =>
    obtain ⟨k, hk, rfl, rfl, hbk, hgr, hsz⟩ := hrel
    by_cases hlt : k < n
    · have hlen := laidTo_length l off n x k hn hk
      have hxk : x / 256 ^ k < 18446744073709551616 := Nat.lt_of_le_of_lt (Nat.div_le_self _ _) hx
      obtain ⟨ck, hcell⟩ : ∃ u, wr.cell? ⟨g, off + (n - 1 - k), none⟩ = some (.int .u8 u) := by
        rw [hbk.cell]
        have hj : off + (n - 1 - k) < (laidTo l off n x k).length := by omega
        exact ⟨_, by rw [List.getElem?_toArray, List.getElem?_map, List.getElem?_eq_getElem hj]; rfl⟩
      have hfr := hbk.frozen (off + (n - 1 - k))
      have Hd := Lib.hid (div_pow_succ x k)
      have Hs := Lib.hid (laidTo_succ l off n x k hn hlt)
      have Hz := Lib.hid hsz
      clear hlen hsz
      generalize x / 256 ^ k = xk at *
      go_wp2
      go_roundw
      case rel =>
        refine ⟨k + 1, by omega, by go_num, by rw [Hd.out]; go_num, ?_, grown_setCell hgr (.inl rfl) _, by rw [size_setCell]; exact Hz.out⟩
        rw [← Hs.out]
        exact hbk.put _ (bv_ofNat _)
      case measure => simp [intOf]; omega
    · have hkn : k = n := by omega
      subst hkn
      have Hz := Lib.hid hsz
      clear hsz
      go_wp2
      go_end0
      exact ⟨rfl, hbk, hgr, Hz.out⟩
end Go.Proofs.Ytcnhfbckaacalaa
