/- Arith (layer 14): embersref07.Print of the one term that live prints. Written by hand. -/
import Derived.Test.YtbpnlpjbjmojfaaGreatArB
namespace Go.Proofs.YtbpnlpjbjmojfaaGreat
open Go.RowKit
set_option linter.unusedVariables false

def wordsL : List (List UInt8) := [[97, 102, 116, 101, 114], [97, 110, 100], [99, 97, 115, 101], [99, 97, 116, 99, 104], [100, 105, 118], [101, 110, 100], [102, 117, 110], [110, 111, 116], [111, 102], [111, 114], [114, 101, 99, 101, 105, 118, 101], [114, 101, 109], [116, 114, 121], [119, 104, 101, 110]]
theorem words_no : ∀ s ∈ wordsL, (s == [97]) = false := by decide
set_option maxRecDepth 100000 in
set_option maxHeartbeats 1000000 in
theorem word_a (W : World) : Calls Tryz.prog 100 #[.string ⟨#[97]⟩] W fun e w' => e = .returned (.bool false) ∧ Below W.heap.size W w' := by
  go_enter Tryz.func100, Tryz.ntmps100
  go_upto_region 2 with (fail)
  refine wp_world (fun V => Blk V W.heap.size 9 (wordsL.map (fun s => Value.string ⟨s.toArray⟩)).toArray ∧ Below W.heap.size W V) ⟨Blk.new W _ _, below_alloc _ _⟩ ?_
  rintro V ⟨hB, hb⟩
  have HB := Lib.hid hB
  have HBL := Lib.hid hb
  clear hB hb
  go_upto_region 3 with (fail)
  go_loopw [4] (fun v wr => ∃ i : Nat, v = .int .i64 (i : Int) ∧ i ≤ 14 ∧ V = wr) (fun v _ => match v with | .int _ i => 14 - i.toNat | _ => 0)
  case atStart => exact ⟨0, by simp, by omega, rfl⟩
  case round =>
    obtain ⟨i, rfl, hi, rfl⟩ := hrel
    by_cases h : i < 14
    · have hd : decide ((i : Int) < 14) = true := by simp; omega
      obtain ⟨s, hs⟩ : ∃ s, wordsL[i]? = some s := ⟨wordsL[i], List.getElem?_eq_getElem (by simpa [wordsL] using h)⟩
      have hno : (s == [97]) = false := words_no s (List.mem_of_getElem? hs)
      have hc : V.cell? ⟨W.heap.size, i, none⟩ = some (.string ⟨s.toArray⟩) := by
        rw [HB.out.cell]
        simp [hs]
      have hw : wrap64 ((i : Int) + 1) = (i : Int) + 1 := by unfold wrap64; omega
      clear hs
      go_wp2
      go_roundw
      case rel => exact ⟨i + 1, by simp, by omega, by trivial⟩
      case measure => simp; omega
    · have hd : decide ((i : Int) < 14) = false := by simp; omega
      go_wp2
      go_ret
      exact ⟨rfl, HBL.out⟩
set_option maxRecDepth 100000 in
set_option maxHeartbeats 1000000 in
theorem bare_a (W : World) : Calls Tryz.prog 83 #[.string ⟨#[97]⟩] W fun e w' => e = .returned (.bool true) ∧ Below W.heap.size W w' := by
  go_enter Tryz.func83, Tryz.ntmps83
  go_upto_region 4 with (fail)
  go_loopw [3] (fun v wr => ∃ i : Nat, v = .int .i64 (i : Int) ∧ i ≤ 1 ∧ W = wr) (fun v _ => match v with | .int _ i => 1 - i.toNat | _ => 0)
  case atStart => exact ⟨0, by simp, by omega, rfl⟩
  case round =>
    obtain ⟨i, rfl, hi, rfl⟩ := hrel
    by_cases h : i = 0
    · subst h
      have hw : wrap64 ((0 : Int) + 1) = 1 := by unfold wrap64; omega
      go_wp2
      go_roundw
      case rel => exact ⟨1, by simp, by omega, by trivial⟩
      case measure => simp
    · obtain rfl : i = 1 := by omega
      go_wp2_with (go_at_call 100; refine (word_a _).mono ?_; rintro e V ⟨rfl, hb⟩)
      go_ret
      exact ⟨rfl, hb⟩
set_option maxRecDepth 100000 in
set_option maxHeartbeats 1000000 in
theorem name_a (W : World) : Calls Tryz.prog 29 #[.string ⟨#[97]⟩] W fun e w' => e = .returned (.string ⟨#[97]⟩) ∧ Below W.heap.size W w' := by
  go_enter Tryz.func29, Tryz.ntmps29
  go_wp2_with (go_at_call 83; refine (bare_a _).mono ?_; rintro e V ⟨rfl, hb⟩)
  go_ret
  exact ⟨rfl, hb⟩
set_option maxRecDepth 100000 in
set_option maxHeartbeats 1000000 in
theorem digits_1 (W : World) : Calls Tryz.prog 28 #[.int .i64 1] W fun e w' => e = .returned (.string ⟨#[49]⟩) ∧ Below W.heap.size W w' := by
  have hw : wrap64 ((1 : Int) + 1) = 2 := by unfold wrap64; omega
  go_enter Tryz.func28, Tryz.ntmps28
  go_wp2
  go_ret
  exact ⟨rfl, Below.refl _ _⟩
set_option maxRecDepth 100000 in
set_option maxHeartbeats 1000000 in
theorem print_1 (A : Option Addr) (c : Nat) (W : World) : Calls Tryz.prog 15 #[.agg #[.int .i64 1, .int .i64 1, .string ⟨#[]⟩, .slice A 0 c]] W fun e w' => e = .returned (.string ⟨#[49]⟩) ∧ Below W.heap.size W w' := by
  have hb0 := below_alloc W (.cells #[.int .i64 1, .int .i64 1, .string ⟨#[]⟩, .slice A 0 c] 26)
  have HB0 := Lib.hid hb0
  clear hb0
  go_enter Tryz.func15, Tryz.ntmps15
  go_wp2_with (go_at_call 28; refine (digits_1 _).mono ?_; rintro e V ⟨rfl, hb⟩)
  go_ret
  exact ⟨rfl, below_step HB0.out hb⟩
set_option maxRecDepth 100000 in
set_option maxHeartbeats 1000000 in
theorem print_a (A : Option Addr) (c : Nat) (W : World) : Calls Tryz.prog 15 #[.agg #[.int .i64 2, .int .i64 0, .string ⟨#[97]⟩, .slice A 0 c]] W fun e w' => e = .returned (.string ⟨#[97]⟩) ∧ Below W.heap.size W w' := by
  have hb0 := below_alloc W (.cells #[.int .i64 2, .int .i64 0, .string ⟨#[97]⟩, .slice A 0 c] 26)
  have HB0 := Lib.hid hb0
  clear hb0
  go_enter Tryz.func15, Tryz.ntmps15
  go_wp2_with (go_at_call 29; refine (name_a _).mono ?_; rintro e V ⟨rfl, hb⟩)
  go_ret
  exact ⟨rfl, below_step HB0.out hb⟩
set_option maxRecDepth 100000 in
set_option maxHeartbeats 1000000 in
theorem prow_1a {b o : Nat} {c : Nat} {W : World} (h : TV.Row W [tI 1, tA [97]] b o) : Calls Tryz.prog 30 #[.slice (some ⟨b, o, none⟩) 2 c] W fun e w' => e = .returned (.string ⟨#[49, 44, 97]⟩) ∧ Below W.heap.size W w' := by
  obtain ⟨A0, n0, c0, i0, i1, i2, i3, hn0, _⟩ := at_tval (row_at h (k := 0) (by simp))
  obtain ⟨A1, n1, c1, j0, j1, j2, j3, hn1, _⟩ := at_tval (row_at h (k := 1) (by simp))
  obtain rfl : 0 = n0 := hn0
  obtain rfl : 0 = n1 := hn1
  have I0 := Lib.hid (show W.cell? ⟨b, o, none⟩ = some (.int .i64 1) from i0)
  have I1 := Lib.hid (show W.cell? ⟨b, o + 1, none⟩ = some (.int .i64 1) from i1)
  have I2 := Lib.hid (show W.cell? ⟨b, o + 2, none⟩ = some (.string ⟨#[]⟩) from i2)
  have I3 := Lib.hid (show W.cell? ⟨b, o + 3, none⟩ = some (.slice A0 0 c0) from i3)
  have J0 := Lib.hid (show W.cell? ⟨b, o + 4, none⟩ = some (.int .i64 2) from j0)
  have J1 := Lib.hid (show W.cell? ⟨b, o + 4 + 1, none⟩ = some (.int .i64 0) from j1)
  have J2 := Lib.hid (show W.cell? ⟨b, o + 4 + 2, none⟩ = some (.string ⟨#[97]⟩) from j2)
  have J3 := Lib.hid (show W.cell? ⟨b, o + 4 + 3, none⟩ = some (.slice A1 0 c1) from j3)
  have HLT := Lib.hid (World.block_lt_of_cell? W _ I0.out)
  clear h i0 i1 i2 i3 j0 j1 j2 j3
  go_enter Tryz.func30, Tryz.ntmps30
  go_upto_region 3 with (fail)
  go_loopw [3, 4] (fun s v wr => ∃ i : Nat, v = .int .i64 (i : Int) ∧ i ≤ 2 ∧ Hid (Below W.heap.size W wr) ∧ s = .string ⟨(if i = 0 then [] else if i = 1 then [49] else [49, 44, 97] : List UInt8).toArray⟩) (fun _ v _ => match v with | .int _ i => 2 - i.toNat | _ => 0)
  case atStart => exact ⟨0, by simp, by omega, Below.refl _ _, by simp⟩
  case round =>
    obtain ⟨i, rfl, hi, HB, rfl⟩ := hrel
    have hlt := HLT.out
    have i0 := (HB.out.cell (p := ⟨b, o, none⟩) hlt).trans I0.out
    have i1 := (HB.out.cell (p := ⟨b, o + 1, none⟩) hlt).trans I1.out
    have i2 := (HB.out.cell (p := ⟨b, o + 2, none⟩) hlt).trans I2.out
    have i3 := (HB.out.cell (p := ⟨b, o + 3, none⟩) hlt).trans I3.out
    have j0 := (HB.out.cell (p := ⟨b, o + 4, none⟩) hlt).trans J0.out
    have j1 := (HB.out.cell (p := ⟨b, o + 4 + 1, none⟩) hlt).trans J1.out
    have j2 := (HB.out.cell (p := ⟨b, o + 4 + 2, none⟩) hlt).trans J2.out
    have j3 := (HB.out.cell (p := ⟨b, o + 4 + 3, none⟩) hlt).trans J3.out
    clear hlt
    have hw1 : wrap64 ((0 : Int) + 1) = 1 := by unfold wrap64; omega
    have hw2 : wrap64 ((1 : Int) + 1) = 2 := by unfold wrap64; omega
    by_cases h : i = 0
    · subst h
      go_wp2_with (go_at_call 15; refine (print_1 _ _ _).mono ?_; rintro e V ⟨rfl, hb⟩; have HB := Lib.hid (below_step HB.out hb); clear hb)
      go_roundw
      case rel => exact ⟨1, by simp, by omega, HB.out, by rfl⟩
      case measure => simp
    · by_cases h1 : i = 1
      · subst h1
        go_wp2_with (go_at_call 15; refine (print_a _ _ _).mono ?_; rintro e V ⟨rfl, hb⟩; have HB := Lib.hid (below_step HB.out hb); clear hb)
        go_roundw
        case rel => exact ⟨2, by simp, by omega, HB.out, by rfl⟩
        case measure => simp
      · obtain rfl : i = 2 := by omega
        go_wp2
        go_ret
        exact ⟨rfl, HB.out⟩
set_option maxRecDepth 100000 in
set_option maxHeartbeats 1000000 in
theorem print_1a {u : Value} {W : World} (h : TVal W u (tT [tI 1, tA [97]])) : Calls Tryz.prog 15 #[u] W fun e w' => e = .returned (.string ⟨#[123, 49, 44, 97, 125]⟩) ∧ Below W.heap.size W w' := by
  obtain ⟨A, n, c, rfl, hn, hR⟩ := h
  obtain rfl : 2 = n := hn
  rcases hR.2.2 with he | ⟨b, o, rfl, hrow⟩
  · cases he
  have HR := Lib.hid hrow
  clear hR hrow
  show Calls _ _ #[.agg #[.int .i64 6, .int .i64 0, .string ⟨#[]⟩, .slice (some ⟨b, o, none⟩) 2 c]] _ _
  have hk : Kept W (W.alloc (.cells #[.int .i64 6, .int .i64 0, .string ⟨#[]⟩, .slice (some ⟨b, o, none⟩) 2 c] 26)) := kept_of fun p v hv => ((below_alloc W _).cell (World.block_lt_of_cell? W p hv)).trans hv
  have HC := Lib.hid (prow_1a (c := c) (TV.Row.kept hk _ _ _ HR.out))
  clear hk
  go_enter Tryz.func15, Tryz.ntmps15
  go_wp2_with (go_at_call 30; refine HC.out.mono ?_; rintro e V ⟨rfl, hb⟩)
  go_ret
  exact ⟨rfl, below_step (below_alloc _ _) hb⟩
end Go.Proofs.YtbpnlpjbjmojfaaGreat
