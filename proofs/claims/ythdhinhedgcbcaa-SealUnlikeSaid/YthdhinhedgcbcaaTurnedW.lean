/- The walk of the statement SealTurned. -/
import Derived.Test.YthdhinhedgcbcaaTurn
import Derived.Test.YthdhinhedgcbcaaLive
namespace Go.Proofs.Ythdhinhedgcbcaa
open Go.RowKit
set_option linter.unusedVariables false

/-- The call ends in true, and nothing that was there has turned. -/
def Yes (w : World) (e : Ending) (w' : World) : Prop := e = .returned (.bool true) ∧ Below w.heap.size w w'

theorem live_from {w W : World} (h : Below w.heap.size w W) : Calls Try.prog 8 #[] W (Yes w) :=
  (live_any W).mono fun e w' ⟨he, hb⟩ => ⟨he, below_step h hb⟩

theorem same_zero (W : World) : Calls Try.prog 12 #[.agg #[.int .u8 0, .int .u64 0, .slice none 0 0], .agg #[.int .u8 0, .int .u64 0, .slice none 0 0]] W fun e w' => e = .returned (.bool true) ∧ Below W.heap.size W w' :=
  same_any 0 0 0 0 none none 0 0 0 0 [] [] W rfl rfl (.inl rfl) (.inl rfl)

/-- Where Put gives a block. -/
theorem putP_zero {size : Int} {kind num : Nat} {load pl : List UInt8} (h : putP size kind num load = (0, pl)) : ∃ s : Nat, size = (s : Int) ∧ 64 ≤ s ∧ s ≤ 4096 ∧ kind ≠ 0 ∧ load.length + 15 ≤ s := by
  unfold putP at h
  split at h
  · cases h
  · rename_i h1
    split at h
    · cases h
    · rename_i h2
      have hr : room size ≠ 0 := fun e => h1 (.inl e)
      have hk : kind ≠ 0 := fun e => h1 (.inr e)
      have h4 : 64 ≤ size ∧ size ≤ 4096 := by
        unfold room at hr
        split at hr
        · exact absurd rfl hr
        · split at hr
          · exact absurd rfl hr
          · omega
      obtain ⟨s, rfl⟩ := Int.eq_ofNat_of_zero_le (show 0 ≤ size by omega)
      rw [room_is (by omega) (by omega)] at h2
      exact ⟨s, rfl, by omega, by omega, hk, by omega⟩

set_option maxHeartbeats 400000 in
theorem turned_big (size : Int) (kind num : Int) (A : Option Addr) (n c : Nat) (at_ mask : Int) (w : World) (h : 20000 < n) :
    Calls Try.prog 3 #[.int .i64 size, .agg #[.int .u8 kind, .int .u64 num, .slice A n c], .int .i64 at_, .int .u32 mask] w (Yes w) := by
  go_enter Try.func3, Try.ntmps3
  go_wp2_with (go_at_call 8; refine (live_from (below_alloc w _)).mono ?_; rintro e w1 ⟨rfl, hb1⟩)
  go_ret
  exact ⟨rfl, hb1⟩

set_option maxHeartbeats 400000 in
theorem turned_no (size : Int) (kind num : Nat) (A : Option Addr) (n c : Nat) (load : List UInt8) (at_ mask : Int) (w : World) (h : n ≤ 20000) (hk : kind < 256) (hnum : num < 18446744073709551616) (hl : load.length = n) (hr : Rd w A load) {pe : Nat} {pl : List UInt8} (hp : putP size kind num load = (pe, pl)) (hpe : pe ≠ 0) :
    Calls Try.prog 3 #[.int .i64 size, .agg #[.int .u8 kind, .int .u64 num, .slice A n c], .int .i64 at_, .int .u32 mask] w (Yes w) := by
  have HP := Lib.hid (put_bad hp hpe (put_any size kind num A n c load (w.alloc (.cells #[.int .u8 (kind : Int), .int .u64 (num : Int), .slice A n c] 25)) hk hnum hl (hr.below (below_alloc _ _))))
  have hb : ((pe : Int) != 0) = true := by rw [bne_iff_ne]; omega
  clear hp hpe hl
  go_enter Try.func3, Try.ntmps3
  go_wp2_with (first
    | (go_at_call 9; refine HP.out.mono ?_; rintro e w1 ⟨rfl, hb1⟩)
    | (go_at_call 10; refine (num_any _ _).mono ?_; rintro e w' ⟨rfl, rfl⟩)
    | (go_at_call 8; refine (live_from ((below_alloc w _).trans (hb1.mono (by simp)))).mono ?_; rintro e w2 ⟨rfl, hb2⟩))
  go_ret
  exact ⟨rfl, hb2⟩

theorem mask_bit (mask k : Nat) (hm : mask < 4294967296) : (bits BinOp.and IntKind.u32 ((mask : Int) / 2 ^ k) 1 == 1) = mask.testBit k := by
  have h1 : (mask : Int) / 2 ^ k = ((mask / 2 ^ k : Nat) : Int) := by
    rw [Int.natCast_ediv, Int.natCast_pow]; rfl
  have h2 : mask / 2 ^ k < 4294967296 := Nat.lt_of_le_of_lt (Nat.div_le_self _ _) hm
  have h3 := u32_and_nat (mask / 2 ^ k) 1 h2 (by omega)
  rw [h1]
  have h4 : bits BinOp.and IntKind.u32 ((mask / 2 ^ k : Nat) : Int) 1 = ((mask / 2 ^ k % 2 : Nat) : Int) := by
    rw [← nat_mask1]; exact h3
  rw [h4, Nat.testBit_eq_decide_div_mod_eq, Bool.eq_iff_iff]
  simp
  omega

theorem xor_byte (x s : Nat) (hx : x < 256) (hs : s < 8) : Value.int .u8 (bits BinOp.xor IntKind.u8 (x : Int) (2 ^ s % 256)) = bv (UInt8.ofNat (x ^^^ 2 ^ s)) := by
  have h1 : 2 ^ s < 256 := Nat.pow_lt_pow_right (show 1 < 2 by omega) hs
  have h2 : ((2 : Int) ^ s % 256) = ((2 ^ s : Nat) : Int) := by
    have h4 : ((2 : Int) ^ s) = ((2 ^ s : Nat) : Int) := by simp
    rw [h4]
    generalize 2 ^ s = t at *
    omega
  have h3 : x ^^^ 2 ^ s < 2 ^ 8 := Nat.xor_lt_two_pow hx h1
  rw [h2, u8_xor_nat x (2 ^ s) hx h1, ← bv_ofNat]
  congr 1
  omega

set_option maxHeartbeats 800000 in
theorem turned_ok (size kind num : Nat) (A : Option Addr) (n c : Nat) (load : List UInt8) (at_ : Int) (mask : Nat) (w : World) (h : n ≤ 20000) (hk : kind < 256) (hk0 : kind ≠ 0) (hnum : num < 18446744073709551616) (hl : load.length = n) (hr : Rd w A load) (h64 : 64 ≤ size) (h4096 : size ≤ 4096) (hn : n + 15 ≤ size) (hmask : mask < 4294967296) :
    Calls Try.prog 3 #[.int .i64 size, .agg #[.int .u8 kind, .int .u64 num, .slice A n c], .int .i64 at_, .int .u32 mask] w (Yes w) := by
  have hp := putP_ok (num := num) (load := load) h64 h4096 hk0 (by omega)
  have HP := Lib.hid (put_good hp (put_any size kind num A n c load (w.alloc (.cells #[.int .u8 (kind : Int), .int .u64 (num : Int), .slice A n c] 25)) hk hnum hl (hr.below (below_alloc _ _))))
  have HL := Lib.hid hl
  clear hp hl
  have hbs : ((size : Int) != (size : Int)) = false := by simp
  by_cases hat : at_ < 0 ∨ 8 * ((size : Int) - 4) ≤ at_
  · by_cases h0 : at_ < 0
    · have hd0 : decide (at_ < 0) = true := by simpa using h0
      clear hat
      go_enter Try.func3, Try.ntmps3
      go_wp2_with (first
        | (go_at_call 9; refine HP.out.mono ?_; rintro e w1 ⟨g, rfl, hb1, hg1, hB1, hlen1⟩)
        | (go_at_call 10; refine (num_any _ _).mono ?_; rintro e w' ⟨rfl, rfl⟩)
        | (go_at_call 8; refine (live_from ((below_alloc w _).trans (hb1.mono (by simp)))).mono ?_; rintro e w2 ⟨rfl, hb2⟩))
      go_ret
      exact ⟨rfl, hb2⟩
    · have hd0 : decide (at_ < 0) = false := by simpa using h0
      have hd1 : 8 * ((size : Int) - 4) ≤ at_ := by omega
      have hd2 : decide (8 * ((size : Int) - 4) ≤ at_) = true := by simpa using hd1
      clear hat
      go_enter Try.func3, Try.ntmps3
      go_wp2_with (first
        | (go_at_call 9; refine HP.out.mono ?_; rintro e w1 ⟨g, rfl, hb1, hg1, hB1, hlen1⟩)
        | (go_at_call 10; refine (num_any _ _).mono ?_; rintro e w' ⟨rfl, rfl⟩)
        | (go_at_call 8; refine (live_from ((below_alloc w _).trans (hb1.mono (by simp)))).mono ?_; rintro e w2 ⟨rfl, hb2⟩))
      go_ret
      exact ⟨rfl, hb2⟩
  · obtain ⟨a, rfl⟩ := Int.eq_ofNat_of_zero_le (show 0 ≤ at_ by omega)
    have ha : a < 8 * (size - 4) := by omega
    have ha0 : ¬ ((a : Int) < 0) := by omega
    have ha1 : ¬ (8 * ((size : Int) - 4) ≤ (a : Int)) := by omega
    clear hat
    go_enter Try.func3, Try.ntmps3
    go_wp2_with (first
      | (go_at_call 9; refine HP.out.mono ?_; rintro e w1 ⟨g, rfl, hb1, hg1, hB1, hlen1⟩)
      | (go_at_call 10; refine (num_any _ _).mono ?_; rintro e w' ⟨rfl, rfl⟩))
    have hbw1 : Below w.heap.size w w1 := (below_alloc w _).trans (hb1.mono (by simp))
    have hgw : w.heap.size ≤ g := Nat.le_trans (by simp) hg1
    have Hsl := Lib.hid (sealed_len (kind := kind) (num := num) (load := load) h64 (by rw [HL.out]; exact hn))
    clear hb1 hlen1 HP ha0 ha1 hbs hg1
    go_loopw [12, 13] (fun t i wr => ∃ k : Nat, k ≤ 32 ∧ a + k ≤ 8 * (size - 4) ∧ i = .int .i64 k ∧ t = .bool (turnedK mask k) ∧ Blk wr g 5 ((turnK (sealed size kind num load) a mask k).map bv).toArray ∧ Below w.heap.size w wr) (fun _ i _ => 32 - (intOf i).toNat)
    case atStart => exact ⟨0, by omega, by omega, rfl, rfl, hB1, hbw1⟩
    case round =>
      obtain ⟨k, hk32, hak, rfl, rfl, hBk, hbk⟩ := hrel
      by_cases hlt : k < 32 ∧ (a : Int) < 8 * ((size : Int) - 4) - (k : Int)
      · obtain ⟨hlt1, hlt2⟩ := hlt
        have hd1 : decide ((k : Int) < 32) = true := by simp; omega
        by_cases hbit : mask.testBit k = true
        · have hmb : (bits BinOp.and IntKind.u32 ((mask : Int) / 2 ^ k) 1 == 1) = true := by rw [mask_bit mask k hmask]; exact hbit
          have hlen := turnK_length (sealed size kind num load) a mask k
          have hidx : (a + k) / 8 < (turnK (sealed size kind num load) a mask k).length := by rw [hlen, Hsl.out]; omega
          have hcell : wr.cell? ⟨g, (a + k) / 8, none⟩ = some (.int .u8 (((turnK (sealed size kind num load) a mask k).getD ((a + k) / 8) 0).toNat : Int)) := by
            rw [hBk.cell, List.getElem?_toArray, List.getElem?_map, List.getElem?_eq_getElem hidx, List.getD_eq_getElem?_getD, List.getElem?_eq_getElem hidx]; rfl
          have hfz := hBk.frozen ((a + k) / 8)
          have hx8 := u8_lt ((turnK (sealed size kind num load) a mask k).getD ((a + k) / 8) 0)
          have HT := Lib.hid (show turnK (sealed size kind num load) a mask (k + 1) = (turnK (sealed size kind num load) a mask k).set ((a + k) / 8) (UInt8.ofNat (((turnK (sealed size kind num load) a mask k).getD ((a + k) / 8) 0).toNat ^^^ 2 ^ ((a + k) % 8))) by
            show (if mask.testBit k then _ else _) = _
            rw [if_pos hbit])
          have HTB := Lib.hid (show turnedK mask (k + 1) = true by show (if mask.testBit k then true else _) = _; rw [if_pos hbit])
          clear hlen hidx hbit
          generalize ((turnK (sealed size kind num load) a mask k).getD ((a + k) / 8) 0).toNat = xb at *
          go_wp2
          go_roundw
          case rel => exact ⟨k + 1, by omega, by omega, by go_num, by rw [HTB.out], by rw [HT.out]; exact hBk.put _ (xor_byte xb _ hx8 (Nat.mod_lt _ (by omega))), hbk.setCell hgw _⟩
          case measure => simp [intOf]; omega
        · have hmb : (bits BinOp.and IntKind.u32 ((mask : Int) / 2 ^ k) 1 == 1) = false := by rw [mask_bit mask k hmask]; simpa using hbit
          have HT := Lib.hid (show turnK (sealed size kind num load) a mask (k + 1) = turnK (sealed size kind num load) a mask k by
            show (if mask.testBit k then _ else _) = _
            rw [if_neg hbit])
          have HTB := Lib.hid (show turnedK mask (k + 1) = turnedK mask k by show (if mask.testBit k then true else _) = _; rw [if_neg hbit])
          clear hbit
          go_wp2
          go_roundw
          case rel => exact ⟨k + 1, by omega, by omega, by go_num, by rw [HTB.out], by rw [HT.out]; exact hBk, hbk⟩
          case measure => simp [intOf]; omega
      · have hlen := turnK_length (sealed size kind num load) a mask k
        have hrk : Rd wr (some ⟨g, 0, none⟩) (turnK (sealed size kind num load) a mask k) := by
          have := hBk.rd0 size; rwa [List.take_of_length_le (by rw [hlen, Hsl.out]; omega)] at this
        have HGA := Lib.hid (get_any (some ⟨g, 0, none⟩) size size (turnK (sealed size kind num load) a mask k) wr (by rw [hlen, Hsl.out]) (Nat.le_refl _) (by omega) hrk)
        have hex : (decide ((k : Int) < 32) = true ∧ ¬ ((a : Int) < 8 * ((size : Int) - 4) - (k : Int))) ∨ decide ((k : Int) < 32) = false := by
          by_cases hk2 : k < 32
          · exact .inl ⟨by simp; omega, fun hh => hlt ⟨hk2, hh⟩⟩
          · exact .inr (by simp; omega)
        clear hlt hlen hrk
        cases htk : turnedK mask k with
        | true =>
          have HGG := Lib.hid (get_bad (get_turned (kind := kind) (num := num) h64 (by rw [HL.out]; exact hn) a mask k hk32 hak htk) HGA.out)
          clear HGA htk
          rcases hex with ⟨hd1, hge⟩ | hd1
          all_goals
            go_wp2_with (first
              | (go_at_call 11; refine HGG.out.mono ?_; rintro e w2 ⟨rfl, hb2⟩)
              | (go_at_call 10; refine (num_any _ _).mono ?_; rintro e w' ⟨rfl, rfl⟩)
              | (go_at_call 12; refine (same_zero _).mono ?_; rintro e w3 ⟨rfl, hb3⟩)
              | (go_at_call 8; refine (live_from (below_step (below_step (below_step hbk hb2) (below_alloc w2 _)) hb3)).mono ?_; rintro e w4 ⟨rfl, hb4⟩))
            go_ret
            exact ⟨rfl, hb4⟩
        | false =>
          have hsame := turnK_same (sealed size kind num load) a mask k htk
          rw [hsame] at HGA
          have HGG := Lib.hid (get_good (get_sealed (kind := kind) (num := num) h64 h4096 hk0 hk hnum (by rw [HL.out]; exact hn)) HGA.out)
          clear HGA htk hsame
          rcases hex with ⟨hd1, hge⟩ | hd1
          all_goals
            go_wp2_with (first
              | (go_at_call 11; refine HGG.out.mono ?_; rintro e w2 ⟨B, cB, rfl, _, hb2⟩)
              | (go_at_call 10; refine (num_any _ _).mono ?_; rintro e w' ⟨rfl, rfl⟩)
              | (go_at_call 8; refine (live_from (below_step (below_step hbk hb2) (below_alloc w2 _))).mono ?_; rintro e w4 ⟨rfl, hb4⟩))
            go_ret
            exact ⟨rfl, hb4⟩

/-- SealTurned at every input. -/
theorem turned_any (size : Int) (kind num : Nat) (A : Option Addr) (n c : Nat) (load : List UInt8) (at_ : Int) (mask : Nat) (w : World) (hk : kind < 256) (hnum : num < 18446744073709551616) (hmask : mask < 4294967296) (hl : load.length = n) (hr : Rd w A load) :
    Calls Try.prog 3 #[.int .i64 size, .agg #[.int .u8 kind, .int .u64 num, .slice A n c], .int .i64 at_, .int .u32 mask] w (Yes w) := by
  by_cases h1 : 20000 < n
  · exact turned_big size kind num A n c at_ mask w h1
  · rcases hp : putP size kind num load with ⟨pe, pl⟩
    by_cases hpe : pe = 0
    · subst hpe
      obtain ⟨s, rfl, h64, h4096, hk0, hn⟩ := putP_zero hp
      exact turned_ok s kind num A n c load at_ mask w (by omega) hk hk0 hnum hl hr h64 h4096 (by omega) hmask
    · exact turned_no size kind num A n c load at_ mask w (by omega) hk hnum hl hr hp hpe
end Go.Proofs.Ythdhinhedgcbcaa
