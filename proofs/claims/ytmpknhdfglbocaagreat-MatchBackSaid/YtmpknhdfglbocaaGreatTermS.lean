/- The walk of the reference's is of layer 7 (written by termrisgen.py). -/
import Derived.Test.YtmpknhdfglbocaaGreatTermR
namespace Go.Proofs.YtmpknhdfglbocaaGreat
open Go.RowKit
set_option linter.unusedVariables false

/-- What a loop of is over the items asks. -/
def RisItem (w0 : World) (l : List TV) : Prop := ∀ (k : Nat) (h : k < l.length) (A' : Option Addr) (c' : Nat) (W' : World), Below w0.heap.size w0 W' → RdM w0 A' c' l[k].items → Calls Tryz.prog 37 #[.agg #[.int .i64 l[k].kind, .int .i64 l[k].int, .string ⟨l[k].name.toArray⟩, .slice A' l[k].items.length c']] W' fun e w' => e = .returned (.bool l[k].isT) ∧ Below W'.heap.size W' w'

set_option maxRecDepth 100000 in
set_option maxHeartbeats 4000000 in
theorem ris_k1 (n : Int) (s : List UInt8) (l : List TV) (A : Option Addr) (len c : Nat) (w0 W : World) (hlen : l.length = len) (hlc : len ≤ 9223372036854775807) (hsl : s.length ≤ 9223372036854775807) (hW : Below w0.heap.size w0 W) (hR : RdM w0 A c l) (hit : RisItem w0 l) :
    Calls Tryz.prog 37 #[.agg #[.int .i64 1, .int .i64 n, .string ⟨s.toArray⟩, .slice A len c]] W (IsEnds W 1 n s len (TV.isL l)) := by
  have HIT := Lib.hid hit
  have HLEN := Lib.hid hlen
  clear hit hlen
  have hway : (¬ (-576460752303423488 : Int) ≤ n) ∨ ((-576460752303423488 : Int) ≤ n ∧ ¬ n ≤ 576460752303423487) ∨ ((-576460752303423488 : Int) ≤ n ∧ n ≤ 576460752303423487 ∧ ¬ s = []) ∨ ((-576460752303423488 : Int) ≤ n ∧ n ≤ 576460752303423487 ∧ s = [] ∧ ¬ len = 0) ∨ ((-576460752303423488 : Int) ≤ n ∧ n ≤ 576460752303423487 ∧ s = [] ∧ len = 0) := by
    by_cases g0 : (-576460752303423488 : Int) ≤ n
    rotate_left
    · exact .inl (g0)
    by_cases g1 : n ≤ 576460752303423487
    rotate_left
    · exact .inr (.inl (⟨g0, g1⟩))
    by_cases g2 : s = []
    rotate_left
    · exact .inr (.inr (.inl (⟨g0, g1, g2⟩)))
    by_cases g3 : len = 0
    rotate_left
    · exact .inr (.inr (.inr (.inl (⟨g0, g1, g2, g3⟩))))
    exact .inr (.inr (.inr (.inr (⟨g0, g1, g2, g3⟩))))
  rcases hway with h0 | ⟨h0, h1⟩ | ⟨h0, h1, h2⟩ | ⟨h0, h1, h2, h3⟩ | ⟨h0, h1, h2, h3⟩
  · skip
    have HF := Lib.hid (show headB 1 n s len = false by unfold headB; simp [h0])
    have d0 : decide ((-576460752303423488 : Int) ≤ n) = false := by simp; omega
    clear h0
    go_enter Tryz.func37, Tryz.ntmps37
    go_upto_region 19 with (fail)
    refine wp_world (fun V => Blk V W.heap.size 35 #[.int .i64 1, .int .i64 n, .string ⟨s.toArray⟩, .slice A len c] ∧ Below W.heap.size W V) ⟨Blk.new _ _ _, below_alloc _ _⟩ ?_
    rintro V1 ⟨hB1, hb1⟩
    have t3 := hB1.cell 3
    refine wp_loop_rounds 1 ?_
    rw [rounds_succ]
    by_cases hz : 0 < len
    · have hd9 : decide (0 < (len : Int)) = true := by simp; omega
      go_wp2_with (fail)
      go_ret
      exact ⟨by rw [HF.out]; rfl, hb1⟩
    · have hd9 : decide (0 < (len : Int)) = false := by simp; omega
      go_wp2_with (fail)
      go_ret
      exact ⟨by rw [HF.out]; rfl, hb1⟩
  · skip
    have HF := Lib.hid (show headB 1 n s len = false by unfold headB; simp [h0, h1])
    have d0 : decide ((-576460752303423488 : Int) ≤ n) = true := by simp; omega
    have d1 : decide (n ≤ 576460752303423487) = false := by simp; omega
    clear h0 h1
    go_enter Tryz.func37, Tryz.ntmps37
    go_upto_region 19 with (fail)
    refine wp_world (fun V => Blk V W.heap.size 35 #[.int .i64 1, .int .i64 n, .string ⟨s.toArray⟩, .slice A len c] ∧ Below W.heap.size W V) ⟨Blk.new _ _ _, below_alloc _ _⟩ ?_
    rintro V1 ⟨hB1, hb1⟩
    have t3 := hB1.cell 3
    refine wp_loop_rounds 1 ?_
    rw [rounds_succ]
    by_cases hz : 0 < len
    · have hd9 : decide (0 < (len : Int)) = true := by simp; omega
      go_wp2_with (fail)
      go_ret
      exact ⟨by rw [HF.out]; rfl, hb1⟩
    · have hd9 : decide (0 < (len : Int)) = false := by simp; omega
      go_wp2_with (fail)
      go_ret
      exact ⟨by rw [HF.out]; rfl, hb1⟩
  · skip
    have HF := Lib.hid (show headB 1 n s len = false by unfold headB; simp [h0, h1, h2])
    have d0 : decide ((-576460752303423488 : Int) ≤ n) = true := by simp; omega
    have d1 : decide (n ≤ 576460752303423487) = true := by simp; omega
    have d2 : (s == []) = false := by simp [h2]
    have d3 : s.isEmpty = false := by simp [h2]
    clear h0 h1 h2
    go_enter Tryz.func37, Tryz.ntmps37
    go_upto_region 19 with (fail)
    refine wp_world (fun V => Blk V W.heap.size 35 #[.int .i64 1, .int .i64 n, .string ⟨s.toArray⟩, .slice A len c] ∧ Below W.heap.size W V) ⟨Blk.new _ _ _, below_alloc _ _⟩ ?_
    rintro V1 ⟨hB1, hb1⟩
    have t3 := hB1.cell 3
    refine wp_loop_rounds 1 ?_
    rw [rounds_succ]
    by_cases hz : 0 < len
    · have hd9 : decide (0 < (len : Int)) = true := by simp; omega
      go_wp2_with (fail)
      go_ret
      exact ⟨by rw [HF.out]; rfl, hb1⟩
    · have hd9 : decide (0 < (len : Int)) = false := by simp; omega
      go_wp2_with (fail)
      go_ret
      exact ⟨by rw [HF.out]; rfl, hb1⟩
  · skip
    have HF := Lib.hid (show headB 1 n s len = false by unfold headB; simp [h0, h1, h2, h3])
    have d0 : decide ((-576460752303423488 : Int) ≤ n) = true := by simp; omega
    have d1 : decide (n ≤ 576460752303423487) = true := by simp; omega
    have d2 : ((len : Int) == 0) = false := by simp; omega
    subst h2
    clear h0 h1 h3
    go_enter Tryz.func37, Tryz.ntmps37
    go_upto_region 19 with (fail)
    refine wp_world (fun V => Blk V W.heap.size 35 #[.int .i64 1, .int .i64 n, .string ⟨[].toArray⟩, .slice A len c] ∧ Below W.heap.size W V) ⟨Blk.new _ _ _, below_alloc _ _⟩ ?_
    rintro V1 ⟨hB1, hb1⟩
    have t3 := hB1.cell 3
    refine wp_loop_rounds 1 ?_
    rw [rounds_succ]
    by_cases hz : 0 < len
    · have hd9 : decide (0 < (len : Int)) = true := by simp; omega
      go_wp2_with (fail)
      go_ret
      exact ⟨by rw [HF.out]; rfl, hb1⟩
    · have hd9 : decide (0 < (len : Int)) = false := by simp; omega
      go_wp2_with (fail)
      go_ret
      exact ⟨by rw [HF.out]; rfl, hb1⟩
  · skip
    have HF := Lib.hid (show headB 1 n s len = true by unfold headB; simp [h0, h1, h2, h3])
    have d0 : decide ((-576460752303423488 : Int) ≤ n) = true := by simp; omega
    have d1 : decide (n ≤ 576460752303423487) = true := by simp; omega
    have d2 : ((len : Int) == 0) = true := by simp; omega
    subst h2
    clear h0 h1 h3
    go_enter Tryz.func37, Tryz.ntmps37
    go_upto_region 19 with (fail)
    refine wp_world (fun V => Blk V W.heap.size 35 #[.int .i64 1, .int .i64 n, .string ⟨[].toArray⟩, .slice A len c] ∧ Below W.heap.size W V) ⟨Blk.new _ _ _, below_alloc _ _⟩ ?_
    rintro V1 ⟨hB1, hb1⟩
    go_loopw [3, 4] (fun v i wr => ∃ (k : Nat) (r : Bool), k ≤ len ∧ i = .int .i64 k ∧ v = .bool r ∧ ((r = true ∧ TV.isL (l.take k) = true) ∨ (r = false ∧ TV.isL l = false)) ∧ Blk wr W.heap.size 35 #[.int .i64 1, .int .i64 n, .string ⟨[].toArray⟩, .slice A len c] ∧ Below W.heap.size W wr) (fun _ i _ => len - (intOf i).toNat)
    case atStart => exact ⟨0, true, Nat.zero_le _, rfl, rfl, .inl ⟨rfl, by simp [TV.isL]⟩, hB1, hb1⟩
    case round =>
      obtain ⟨k, r, hk, rfl, rfl, hrr, hBr, hb⟩ := hrel
      clear hB1 hb1
      have hbr := below_step hW hb
      have t3 := hBr.cell 3
      by_cases hlt : k < len
      · have hd8 : decide (k < len) = true := by simp; omega
        rcases hrr with ⟨rfl, hall⟩ | ⟨rfl, hno⟩
        · have hkl : k < l.length := by rw [HLEN.out]; exact hlt
          obtain ⟨b, o, A', c', rfl, h0, h1, h2, h3, hR'⟩ := hR.item hkl
          have e0 := (hbr.cell (World.block_lt_of_cell? w0 _ h0)).trans h0
          have e1 := (hbr.cell (World.block_lt_of_cell? w0 _ h1)).trans h1
          have e2 := (hbr.cell (World.block_lt_of_cell? w0 _ h2)).trans h2
          have e3 := (hbr.cell (World.block_lt_of_cell? w0 _ h3)).trans h3
          have HC := Lib.hid (HIT.out k hkl A' c' wr hbr hR')
          have HNX : Hid ((l[k].isT = true ∧ TV.isL (l.take (k + 1)) = true) ∨ (l[k].isT = false ∧ TV.isL l = false)) := by
            cases hti : l[k].isT with
            | true => exact .inl ⟨rfl, by rw [isL_take l k hkl, hall, hti]; rfl⟩
            | false => exact .inr ⟨rfl, isL_no l k hkl hti⟩
          generalize l[k] = ti at *
          generalize ti.items.length = tl at *
          have q1 : (0 : Int) ≤ (k : Int) := by omega
          have q2 : (k : Int) < (len : Int) := by omega
          clear h0 h1 h2 h3 hkl hR' hall
          go_wp2_with (go_at_call 37; refine HC.out.mono ?_; rintro e w5 ⟨rfl, hb5⟩)
          go_roundw
          case rel => exact ⟨k + 1, ti.isT, by omega, by go_num, rfl, HNX.out, hBr.keep hb5, below_step hb hb5⟩
          case measure => simp [intOf]; omega
        · have HNO := Lib.hid hno
          clear hno
          go_wp2_with (fail)
          go_ret
          exact ⟨by rw [HF.out, HNO.out]; rfl, hb⟩
      · obtain rfl : k = len := by omega
        have hd8 : decide (k < k) = false := by simp
        have HRR := Lib.hid (show r = TV.isL l by
          rw [List.take_of_length_le (by rw [HLEN.out]; exact Nat.le_refl _)] at hrr
          rcases hrr with ⟨h1, h2⟩ | ⟨h1, h2⟩
          · rw [h1, h2]
          · rw [h1, h2])
        clear hrr
        go_wp2_with (fail)
        go_ret
        exact ⟨by rw [HF.out, HRR.out]; rfl, hb⟩

set_option maxRecDepth 100000 in
set_option maxHeartbeats 4000000 in
theorem ris_k2 (n : Int) (s : List UInt8) (l : List TV) (A : Option Addr) (len c : Nat) (w0 W : World) (hlen : l.length = len) (hlc : len ≤ 9223372036854775807) (hsl : s.length ≤ 9223372036854775807) (hW : Below w0.heap.size w0 W) (hR : RdM w0 A c l) (hit : RisItem w0 l) :
    Calls Tryz.prog 37 #[.agg #[.int .i64 2, .int .i64 n, .string ⟨s.toArray⟩, .slice A len c]] W (IsEnds W 2 n s len (TV.isL l)) := by
  have HIT := Lib.hid hit
  have HLEN := Lib.hid hlen
  clear hit hlen
  have hway : (¬ n = 0) ∨ (n = 0 ∧ ¬ 1 ≤ s.length) ∨ (n = 0 ∧ 1 ≤ s.length ∧ ¬ s.length ≤ 255) ∨ (n = 0 ∧ 1 ≤ s.length ∧ s.length ≤ 255 ∧ ¬ len = 0) ∨ (n = 0 ∧ 1 ≤ s.length ∧ s.length ≤ 255 ∧ len = 0) := by
    by_cases g0 : n = 0
    rotate_left
    · exact .inl (g0)
    by_cases g1 : 1 ≤ s.length
    rotate_left
    · exact .inr (.inl (⟨g0, g1⟩))
    by_cases g2 : s.length ≤ 255
    rotate_left
    · exact .inr (.inr (.inl (⟨g0, g1, g2⟩)))
    by_cases g3 : len = 0
    rotate_left
    · exact .inr (.inr (.inr (.inl (⟨g0, g1, g2, g3⟩))))
    exact .inr (.inr (.inr (.inr (⟨g0, g1, g2, g3⟩))))
  rcases hway with h0 | ⟨h0, h1⟩ | ⟨h0, h1, h2⟩ | ⟨h0, h1, h2, h3⟩ | ⟨h0, h1, h2, h3⟩
  · skip
    have HF := Lib.hid (show headB 2 n s len = false by unfold headB; simp; (try (cases s <;> simp_all)); (try omega))
    have d0 : (n == 0) = false := by simp; omega
    clear h0
    go_enter Tryz.func37, Tryz.ntmps37
    go_upto_region 19 with (fail)
    refine wp_world (fun V => Blk V W.heap.size 35 #[.int .i64 2, .int .i64 n, .string ⟨s.toArray⟩, .slice A len c] ∧ Below W.heap.size W V) ⟨Blk.new _ _ _, below_alloc _ _⟩ ?_
    rintro V1 ⟨hB1, hb1⟩
    have t3 := hB1.cell 3
    refine wp_loop_rounds 1 ?_
    rw [rounds_succ]
    by_cases hz : 0 < len
    · have hd9 : decide (0 < (len : Int)) = true := by simp; omega
      go_wp2_with (fail)
      go_ret
      exact ⟨by rw [HF.out]; rfl, hb1⟩
    · have hd9 : decide (0 < (len : Int)) = false := by simp; omega
      go_wp2_with (fail)
      go_ret
      exact ⟨by rw [HF.out]; rfl, hb1⟩
  · skip
    have HF := Lib.hid (show headB 2 n s len = false by unfold headB; simp; (try (cases s <;> simp_all)); (try omega))
    have d0 : (n == 0) = true := by simp; omega
    have d1 : decide (1 ≤ (s.length : Int)) = false := by simp only [decide_eq_false_iff_not]; omega
    clear h0 h1
    go_enter Tryz.func37, Tryz.ntmps37
    go_upto_region 19 with (fail)
    refine wp_world (fun V => Blk V W.heap.size 35 #[.int .i64 2, .int .i64 n, .string ⟨s.toArray⟩, .slice A len c] ∧ Below W.heap.size W V) ⟨Blk.new _ _ _, below_alloc _ _⟩ ?_
    rintro V1 ⟨hB1, hb1⟩
    have t3 := hB1.cell 3
    refine wp_loop_rounds 1 ?_
    rw [rounds_succ]
    by_cases hz : 0 < len
    · have hd9 : decide (0 < (len : Int)) = true := by simp; omega
      go_wp2_with (fail)
      go_ret
      exact ⟨by rw [HF.out]; rfl, hb1⟩
    · have hd9 : decide (0 < (len : Int)) = false := by simp; omega
      go_wp2_with (fail)
      go_ret
      exact ⟨by rw [HF.out]; rfl, hb1⟩
  · skip
    have HF := Lib.hid (show headB 2 n s len = false by unfold headB; simp; (try (cases s <;> simp_all)); (try omega))
    have d0 : (n == 0) = true := by simp; omega
    have d1 : decide (1 ≤ (s.length : Int)) = true := by simp only [decide_eq_true_eq]; omega
    have d2 : decide ((s.length : Int) ≤ 255) = false := by simp; omega
    clear h0 h1 h2
    go_enter Tryz.func37, Tryz.ntmps37
    go_upto_region 19 with (fail)
    refine wp_world (fun V => Blk V W.heap.size 35 #[.int .i64 2, .int .i64 n, .string ⟨s.toArray⟩, .slice A len c] ∧ Below W.heap.size W V) ⟨Blk.new _ _ _, below_alloc _ _⟩ ?_
    rintro V1 ⟨hB1, hb1⟩
    have t3 := hB1.cell 3
    refine wp_loop_rounds 1 ?_
    rw [rounds_succ]
    by_cases hz : 0 < len
    · have hd9 : decide (0 < (len : Int)) = true := by simp; omega
      go_wp2_with (fail)
      go_ret
      exact ⟨by rw [HF.out]; rfl, hb1⟩
    · have hd9 : decide (0 < (len : Int)) = false := by simp; omega
      go_wp2_with (fail)
      go_ret
      exact ⟨by rw [HF.out]; rfl, hb1⟩
  · skip
    have HF := Lib.hid (show headB 2 n s len = false by unfold headB; simp; (try (cases s <;> simp_all)); (try omega))
    have d0 : (n == 0) = true := by simp; omega
    have d1 : decide (1 ≤ (s.length : Int)) = true := by simp only [decide_eq_true_eq]; omega
    have d2 : decide ((s.length : Int) ≤ 255) = true := by simp; omega
    have d3 : ((len : Int) == 0) = false := by simp; omega
    clear h0 h1 h2 h3
    go_enter Tryz.func37, Tryz.ntmps37
    go_upto_region 19 with (fail)
    refine wp_world (fun V => Blk V W.heap.size 35 #[.int .i64 2, .int .i64 n, .string ⟨s.toArray⟩, .slice A len c] ∧ Below W.heap.size W V) ⟨Blk.new _ _ _, below_alloc _ _⟩ ?_
    rintro V1 ⟨hB1, hb1⟩
    have t3 := hB1.cell 3
    refine wp_loop_rounds 1 ?_
    rw [rounds_succ]
    by_cases hz : 0 < len
    · have hd9 : decide (0 < (len : Int)) = true := by simp; omega
      go_wp2_with (fail)
      go_ret
      exact ⟨by rw [HF.out]; rfl, hb1⟩
    · have hd9 : decide (0 < (len : Int)) = false := by simp; omega
      go_wp2_with (fail)
      go_ret
      exact ⟨by rw [HF.out]; rfl, hb1⟩
  · skip
    have HF := Lib.hid (show headB 2 n s len = true by unfold headB; simp; (try (cases s <;> simp_all)); (try omega))
    have d0 : (n == 0) = true := by simp; omega
    have d1 : decide (1 ≤ (s.length : Int)) = true := by simp only [decide_eq_true_eq]; omega
    have d2 : decide ((s.length : Int) ≤ 255) = true := by simp; omega
    have d3 : ((len : Int) == 0) = true := by simp; omega
    clear h0 h1 h2 h3
    go_enter Tryz.func37, Tryz.ntmps37
    go_upto_region 19 with (fail)
    refine wp_world (fun V => Blk V W.heap.size 35 #[.int .i64 2, .int .i64 n, .string ⟨s.toArray⟩, .slice A len c] ∧ Below W.heap.size W V) ⟨Blk.new _ _ _, below_alloc _ _⟩ ?_
    rintro V1 ⟨hB1, hb1⟩
    go_loopw [3, 4] (fun v i wr => ∃ (k : Nat) (r : Bool), k ≤ len ∧ i = .int .i64 k ∧ v = .bool r ∧ ((r = true ∧ TV.isL (l.take k) = true) ∨ (r = false ∧ TV.isL l = false)) ∧ Blk wr W.heap.size 35 #[.int .i64 2, .int .i64 n, .string ⟨s.toArray⟩, .slice A len c] ∧ Below W.heap.size W wr) (fun _ i _ => len - (intOf i).toNat)
    case atStart => exact ⟨0, true, Nat.zero_le _, rfl, rfl, .inl ⟨rfl, by simp [TV.isL]⟩, hB1, hb1⟩
    case round =>
      obtain ⟨k, r, hk, rfl, rfl, hrr, hBr, hb⟩ := hrel
      clear hB1 hb1
      have hbr := below_step hW hb
      have t3 := hBr.cell 3
      by_cases hlt : k < len
      · have hd8 : decide (k < len) = true := by simp; omega
        rcases hrr with ⟨rfl, hall⟩ | ⟨rfl, hno⟩
        · have hkl : k < l.length := by rw [HLEN.out]; exact hlt
          obtain ⟨b, o, A', c', rfl, h0, h1, h2, h3, hR'⟩ := hR.item hkl
          have e0 := (hbr.cell (World.block_lt_of_cell? w0 _ h0)).trans h0
          have e1 := (hbr.cell (World.block_lt_of_cell? w0 _ h1)).trans h1
          have e2 := (hbr.cell (World.block_lt_of_cell? w0 _ h2)).trans h2
          have e3 := (hbr.cell (World.block_lt_of_cell? w0 _ h3)).trans h3
          have HC := Lib.hid (HIT.out k hkl A' c' wr hbr hR')
          have HNX : Hid ((l[k].isT = true ∧ TV.isL (l.take (k + 1)) = true) ∨ (l[k].isT = false ∧ TV.isL l = false)) := by
            cases hti : l[k].isT with
            | true => exact .inl ⟨rfl, by rw [isL_take l k hkl, hall, hti]; rfl⟩
            | false => exact .inr ⟨rfl, isL_no l k hkl hti⟩
          generalize l[k] = ti at *
          generalize ti.items.length = tl at *
          have q1 : (0 : Int) ≤ (k : Int) := by omega
          have q2 : (k : Int) < (len : Int) := by omega
          clear h0 h1 h2 h3 hkl hR' hall
          go_wp2_with (go_at_call 37; refine HC.out.mono ?_; rintro e w5 ⟨rfl, hb5⟩)
          go_roundw
          case rel => exact ⟨k + 1, ti.isT, by omega, by go_num, rfl, HNX.out, hBr.keep hb5, below_step hb hb5⟩
          case measure => simp [intOf]; omega
        · have HNO := Lib.hid hno
          clear hno
          go_wp2_with (fail)
          go_ret
          exact ⟨by rw [HF.out, HNO.out]; rfl, hb⟩
      · obtain rfl : k = len := by omega
        have hd8 : decide (k < k) = false := by simp
        have HRR := Lib.hid (show r = TV.isL l by
          rw [List.take_of_length_le (by rw [HLEN.out]; exact Nat.le_refl _)] at hrr
          rcases hrr with ⟨h1, h2⟩ | ⟨h1, h2⟩
          · rw [h1, h2]
          · rw [h1, h2])
        clear hrr
        go_wp2_with (fail)
        go_ret
        exact ⟨by rw [HF.out, HRR.out]; rfl, hb⟩

set_option maxRecDepth 100000 in
set_option maxHeartbeats 4000000 in
theorem ris_k3 (n : Int) (s : List UInt8) (l : List TV) (A : Option Addr) (len c : Nat) (w0 W : World) (hlen : l.length = len) (hlc : len ≤ 9223372036854775807) (hsl : s.length ≤ 9223372036854775807) (hW : Below w0.heap.size w0 W) (hR : RdM w0 A c l) (hit : RisItem w0 l) :
    Calls Tryz.prog 37 #[.agg #[.int .i64 3, .int .i64 n, .string ⟨s.toArray⟩, .slice A len c]] W (IsEnds W 3 n s len (TV.isL l)) := by
  have HIT := Lib.hid hit
  have HLEN := Lib.hid hlen
  clear hit hlen
  have hway : (¬ (0 : Int) ≤ n) ∨ ((0 : Int) ≤ n ∧ ¬ n ≤ 576460752303423487) ∨ ((0 : Int) ≤ n ∧ n ≤ 576460752303423487 ∧ ¬ s = []) ∨ ((0 : Int) ≤ n ∧ n ≤ 576460752303423487 ∧ s = [] ∧ ¬ len = 0) ∨ ((0 : Int) ≤ n ∧ n ≤ 576460752303423487 ∧ s = [] ∧ len = 0) := by
    by_cases g0 : (0 : Int) ≤ n
    rotate_left
    · exact .inl (g0)
    by_cases g1 : n ≤ 576460752303423487
    rotate_left
    · exact .inr (.inl (⟨g0, g1⟩))
    by_cases g2 : s = []
    rotate_left
    · exact .inr (.inr (.inl (⟨g0, g1, g2⟩)))
    by_cases g3 : len = 0
    rotate_left
    · exact .inr (.inr (.inr (.inl (⟨g0, g1, g2, g3⟩))))
    exact .inr (.inr (.inr (.inr (⟨g0, g1, g2, g3⟩))))
  rcases hway with h0 | ⟨h0, h1⟩ | ⟨h0, h1, h2⟩ | ⟨h0, h1, h2, h3⟩ | ⟨h0, h1, h2, h3⟩
  · skip
    have HF := Lib.hid (show headB 3 n s len = false by unfold headB; simp [h0])
    have d0 : decide ((0 : Int) ≤ n) = false := by simp; omega
    clear h0
    go_enter Tryz.func37, Tryz.ntmps37
    go_upto_region 19 with (fail)
    refine wp_world (fun V => Blk V W.heap.size 35 #[.int .i64 3, .int .i64 n, .string ⟨s.toArray⟩, .slice A len c] ∧ Below W.heap.size W V) ⟨Blk.new _ _ _, below_alloc _ _⟩ ?_
    rintro V1 ⟨hB1, hb1⟩
    have t3 := hB1.cell 3
    refine wp_loop_rounds 1 ?_
    rw [rounds_succ]
    by_cases hz : 0 < len
    · have hd9 : decide (0 < (len : Int)) = true := by simp; omega
      go_wp2_with (fail)
      go_ret
      exact ⟨by rw [HF.out]; rfl, hb1⟩
    · have hd9 : decide (0 < (len : Int)) = false := by simp; omega
      go_wp2_with (fail)
      go_ret
      exact ⟨by rw [HF.out]; rfl, hb1⟩
  · skip
    have HF := Lib.hid (show headB 3 n s len = false by unfold headB; simp [h0, h1])
    have d0 : decide ((0 : Int) ≤ n) = true := by simp; omega
    have d1 : decide (n ≤ 576460752303423487) = false := by simp; omega
    clear h0 h1
    go_enter Tryz.func37, Tryz.ntmps37
    go_upto_region 19 with (fail)
    refine wp_world (fun V => Blk V W.heap.size 35 #[.int .i64 3, .int .i64 n, .string ⟨s.toArray⟩, .slice A len c] ∧ Below W.heap.size W V) ⟨Blk.new _ _ _, below_alloc _ _⟩ ?_
    rintro V1 ⟨hB1, hb1⟩
    have t3 := hB1.cell 3
    refine wp_loop_rounds 1 ?_
    rw [rounds_succ]
    by_cases hz : 0 < len
    · have hd9 : decide (0 < (len : Int)) = true := by simp; omega
      go_wp2_with (fail)
      go_ret
      exact ⟨by rw [HF.out]; rfl, hb1⟩
    · have hd9 : decide (0 < (len : Int)) = false := by simp; omega
      go_wp2_with (fail)
      go_ret
      exact ⟨by rw [HF.out]; rfl, hb1⟩
  · skip
    have HF := Lib.hid (show headB 3 n s len = false by unfold headB; simp [h0, h1, h2])
    have d0 : decide ((0 : Int) ≤ n) = true := by simp; omega
    have d1 : decide (n ≤ 576460752303423487) = true := by simp; omega
    have d2 : (s == []) = false := by simp [h2]
    have d3 : s.isEmpty = false := by simp [h2]
    clear h0 h1 h2
    go_enter Tryz.func37, Tryz.ntmps37
    go_upto_region 19 with (fail)
    refine wp_world (fun V => Blk V W.heap.size 35 #[.int .i64 3, .int .i64 n, .string ⟨s.toArray⟩, .slice A len c] ∧ Below W.heap.size W V) ⟨Blk.new _ _ _, below_alloc _ _⟩ ?_
    rintro V1 ⟨hB1, hb1⟩
    have t3 := hB1.cell 3
    refine wp_loop_rounds 1 ?_
    rw [rounds_succ]
    by_cases hz : 0 < len
    · have hd9 : decide (0 < (len : Int)) = true := by simp; omega
      go_wp2_with (fail)
      go_ret
      exact ⟨by rw [HF.out]; rfl, hb1⟩
    · have hd9 : decide (0 < (len : Int)) = false := by simp; omega
      go_wp2_with (fail)
      go_ret
      exact ⟨by rw [HF.out]; rfl, hb1⟩
  · skip
    have HF := Lib.hid (show headB 3 n s len = false by unfold headB; simp [h0, h1, h2, h3])
    have d0 : decide ((0 : Int) ≤ n) = true := by simp; omega
    have d1 : decide (n ≤ 576460752303423487) = true := by simp; omega
    have d2 : ((len : Int) == 0) = false := by simp; omega
    subst h2
    clear h0 h1 h3
    go_enter Tryz.func37, Tryz.ntmps37
    go_upto_region 19 with (fail)
    refine wp_world (fun V => Blk V W.heap.size 35 #[.int .i64 3, .int .i64 n, .string ⟨[].toArray⟩, .slice A len c] ∧ Below W.heap.size W V) ⟨Blk.new _ _ _, below_alloc _ _⟩ ?_
    rintro V1 ⟨hB1, hb1⟩
    have t3 := hB1.cell 3
    refine wp_loop_rounds 1 ?_
    rw [rounds_succ]
    by_cases hz : 0 < len
    · have hd9 : decide (0 < (len : Int)) = true := by simp; omega
      go_wp2_with (fail)
      go_ret
      exact ⟨by rw [HF.out]; rfl, hb1⟩
    · have hd9 : decide (0 < (len : Int)) = false := by simp; omega
      go_wp2_with (fail)
      go_ret
      exact ⟨by rw [HF.out]; rfl, hb1⟩
  · skip
    have HF := Lib.hid (show headB 3 n s len = true by unfold headB; simp [h0, h1, h2, h3])
    have d0 : decide ((0 : Int) ≤ n) = true := by simp; omega
    have d1 : decide (n ≤ 576460752303423487) = true := by simp; omega
    have d2 : ((len : Int) == 0) = true := by simp; omega
    subst h2
    clear h0 h1 h3
    go_enter Tryz.func37, Tryz.ntmps37
    go_upto_region 19 with (fail)
    refine wp_world (fun V => Blk V W.heap.size 35 #[.int .i64 3, .int .i64 n, .string ⟨[].toArray⟩, .slice A len c] ∧ Below W.heap.size W V) ⟨Blk.new _ _ _, below_alloc _ _⟩ ?_
    rintro V1 ⟨hB1, hb1⟩
    go_loopw [3, 4] (fun v i wr => ∃ (k : Nat) (r : Bool), k ≤ len ∧ i = .int .i64 k ∧ v = .bool r ∧ ((r = true ∧ TV.isL (l.take k) = true) ∨ (r = false ∧ TV.isL l = false)) ∧ Blk wr W.heap.size 35 #[.int .i64 3, .int .i64 n, .string ⟨[].toArray⟩, .slice A len c] ∧ Below W.heap.size W wr) (fun _ i _ => len - (intOf i).toNat)
    case atStart => exact ⟨0, true, Nat.zero_le _, rfl, rfl, .inl ⟨rfl, by simp [TV.isL]⟩, hB1, hb1⟩
    case round =>
      obtain ⟨k, r, hk, rfl, rfl, hrr, hBr, hb⟩ := hrel
      clear hB1 hb1
      have hbr := below_step hW hb
      have t3 := hBr.cell 3
      by_cases hlt : k < len
      · have hd8 : decide (k < len) = true := by simp; omega
        rcases hrr with ⟨rfl, hall⟩ | ⟨rfl, hno⟩
        · have hkl : k < l.length := by rw [HLEN.out]; exact hlt
          obtain ⟨b, o, A', c', rfl, h0, h1, h2, h3, hR'⟩ := hR.item hkl
          have e0 := (hbr.cell (World.block_lt_of_cell? w0 _ h0)).trans h0
          have e1 := (hbr.cell (World.block_lt_of_cell? w0 _ h1)).trans h1
          have e2 := (hbr.cell (World.block_lt_of_cell? w0 _ h2)).trans h2
          have e3 := (hbr.cell (World.block_lt_of_cell? w0 _ h3)).trans h3
          have HC := Lib.hid (HIT.out k hkl A' c' wr hbr hR')
          have HNX : Hid ((l[k].isT = true ∧ TV.isL (l.take (k + 1)) = true) ∨ (l[k].isT = false ∧ TV.isL l = false)) := by
            cases hti : l[k].isT with
            | true => exact .inl ⟨rfl, by rw [isL_take l k hkl, hall, hti]; rfl⟩
            | false => exact .inr ⟨rfl, isL_no l k hkl hti⟩
          generalize l[k] = ti at *
          generalize ti.items.length = tl at *
          have q1 : (0 : Int) ≤ (k : Int) := by omega
          have q2 : (k : Int) < (len : Int) := by omega
          clear h0 h1 h2 h3 hkl hR' hall
          go_wp2_with (go_at_call 37; refine HC.out.mono ?_; rintro e w5 ⟨rfl, hb5⟩)
          go_roundw
          case rel => exact ⟨k + 1, ti.isT, by omega, by go_num, rfl, HNX.out, hBr.keep hb5, below_step hb hb5⟩
          case measure => simp [intOf]; omega
        · have HNO := Lib.hid hno
          clear hno
          go_wp2_with (fail)
          go_ret
          exact ⟨by rw [HF.out, HNO.out]; rfl, hb⟩
      · obtain rfl : k = len := by omega
        have hd8 : decide (k < k) = false := by simp
        have HRR := Lib.hid (show r = TV.isL l by
          rw [List.take_of_length_le (by rw [HLEN.out]; exact Nat.le_refl _)] at hrr
          rcases hrr with ⟨h1, h2⟩ | ⟨h1, h2⟩
          · rw [h1, h2]
          · rw [h1, h2])
        clear hrr
        go_wp2_with (fail)
        go_ret
        exact ⟨by rw [HF.out, HRR.out]; rfl, hb⟩

set_option maxRecDepth 100000 in
set_option maxHeartbeats 4000000 in
theorem ris_k5 (n : Int) (s : List UInt8) (l : List TV) (A : Option Addr) (len c : Nat) (w0 W : World) (hlen : l.length = len) (hlc : len ≤ 9223372036854775807) (hsl : s.length ≤ 9223372036854775807) (hW : Below w0.heap.size w0 W) (hR : RdM w0 A c l) (hit : RisItem w0 l) :
    Calls Tryz.prog 37 #[.agg #[.int .i64 5, .int .i64 n, .string ⟨s.toArray⟩, .slice A len c]] W (IsEnds W 5 n s len (TV.isL l)) := by
  have HIT := Lib.hid hit
  have HLEN := Lib.hid hlen
  clear hit hlen
  have hway : (¬ (0 : Int) ≤ n) ∨ ((0 : Int) ≤ n ∧ ¬ n ≤ 576460752303423487) ∨ ((0 : Int) ≤ n ∧ n ≤ 576460752303423487 ∧ ¬ s = []) ∨ ((0 : Int) ≤ n ∧ n ≤ 576460752303423487 ∧ s = [] ∧ ¬ len = 0) ∨ ((0 : Int) ≤ n ∧ n ≤ 576460752303423487 ∧ s = [] ∧ len = 0) := by
    by_cases g0 : (0 : Int) ≤ n
    rotate_left
    · exact .inl (g0)
    by_cases g1 : n ≤ 576460752303423487
    rotate_left
    · exact .inr (.inl (⟨g0, g1⟩))
    by_cases g2 : s = []
    rotate_left
    · exact .inr (.inr (.inl (⟨g0, g1, g2⟩)))
    by_cases g3 : len = 0
    rotate_left
    · exact .inr (.inr (.inr (.inl (⟨g0, g1, g2, g3⟩))))
    exact .inr (.inr (.inr (.inr (⟨g0, g1, g2, g3⟩))))
  rcases hway with h0 | ⟨h0, h1⟩ | ⟨h0, h1, h2⟩ | ⟨h0, h1, h2, h3⟩ | ⟨h0, h1, h2, h3⟩
  · skip
    have HF := Lib.hid (show headB 5 n s len = false by unfold headB; simp [h0])
    have d0 : decide ((0 : Int) ≤ n) = false := by simp; omega
    clear h0
    go_enter Tryz.func37, Tryz.ntmps37
    go_upto_region 19 with (fail)
    refine wp_world (fun V => Blk V W.heap.size 35 #[.int .i64 5, .int .i64 n, .string ⟨s.toArray⟩, .slice A len c] ∧ Below W.heap.size W V) ⟨Blk.new _ _ _, below_alloc _ _⟩ ?_
    rintro V1 ⟨hB1, hb1⟩
    have t3 := hB1.cell 3
    refine wp_loop_rounds 1 ?_
    rw [rounds_succ]
    by_cases hz : 0 < len
    · have hd9 : decide (0 < (len : Int)) = true := by simp; omega
      go_wp2_with (fail)
      go_ret
      exact ⟨by rw [HF.out]; rfl, hb1⟩
    · have hd9 : decide (0 < (len : Int)) = false := by simp; omega
      go_wp2_with (fail)
      go_ret
      exact ⟨by rw [HF.out]; rfl, hb1⟩
  · skip
    have HF := Lib.hid (show headB 5 n s len = false by unfold headB; simp [h0, h1])
    have d0 : decide ((0 : Int) ≤ n) = true := by simp; omega
    have d1 : decide (n ≤ 576460752303423487) = false := by simp; omega
    clear h0 h1
    go_enter Tryz.func37, Tryz.ntmps37
    go_upto_region 19 with (fail)
    refine wp_world (fun V => Blk V W.heap.size 35 #[.int .i64 5, .int .i64 n, .string ⟨s.toArray⟩, .slice A len c] ∧ Below W.heap.size W V) ⟨Blk.new _ _ _, below_alloc _ _⟩ ?_
    rintro V1 ⟨hB1, hb1⟩
    have t3 := hB1.cell 3
    refine wp_loop_rounds 1 ?_
    rw [rounds_succ]
    by_cases hz : 0 < len
    · have hd9 : decide (0 < (len : Int)) = true := by simp; omega
      go_wp2_with (fail)
      go_ret
      exact ⟨by rw [HF.out]; rfl, hb1⟩
    · have hd9 : decide (0 < (len : Int)) = false := by simp; omega
      go_wp2_with (fail)
      go_ret
      exact ⟨by rw [HF.out]; rfl, hb1⟩
  · skip
    have HF := Lib.hid (show headB 5 n s len = false by unfold headB; simp [h0, h1, h2])
    have d0 : decide ((0 : Int) ≤ n) = true := by simp; omega
    have d1 : decide (n ≤ 576460752303423487) = true := by simp; omega
    have d2 : (s == []) = false := by simp [h2]
    have d3 : s.isEmpty = false := by simp [h2]
    clear h0 h1 h2
    go_enter Tryz.func37, Tryz.ntmps37
    go_upto_region 19 with (fail)
    refine wp_world (fun V => Blk V W.heap.size 35 #[.int .i64 5, .int .i64 n, .string ⟨s.toArray⟩, .slice A len c] ∧ Below W.heap.size W V) ⟨Blk.new _ _ _, below_alloc _ _⟩ ?_
    rintro V1 ⟨hB1, hb1⟩
    have t3 := hB1.cell 3
    refine wp_loop_rounds 1 ?_
    rw [rounds_succ]
    by_cases hz : 0 < len
    · have hd9 : decide (0 < (len : Int)) = true := by simp; omega
      go_wp2_with (fail)
      go_ret
      exact ⟨by rw [HF.out]; rfl, hb1⟩
    · have hd9 : decide (0 < (len : Int)) = false := by simp; omega
      go_wp2_with (fail)
      go_ret
      exact ⟨by rw [HF.out]; rfl, hb1⟩
  · skip
    have HF := Lib.hid (show headB 5 n s len = false by unfold headB; simp [h0, h1, h2, h3])
    have d0 : decide ((0 : Int) ≤ n) = true := by simp; omega
    have d1 : decide (n ≤ 576460752303423487) = true := by simp; omega
    have d2 : ((len : Int) == 0) = false := by simp; omega
    subst h2
    clear h0 h1 h3
    go_enter Tryz.func37, Tryz.ntmps37
    go_upto_region 19 with (fail)
    refine wp_world (fun V => Blk V W.heap.size 35 #[.int .i64 5, .int .i64 n, .string ⟨[].toArray⟩, .slice A len c] ∧ Below W.heap.size W V) ⟨Blk.new _ _ _, below_alloc _ _⟩ ?_
    rintro V1 ⟨hB1, hb1⟩
    have t3 := hB1.cell 3
    refine wp_loop_rounds 1 ?_
    rw [rounds_succ]
    by_cases hz : 0 < len
    · have hd9 : decide (0 < (len : Int)) = true := by simp; omega
      go_wp2_with (fail)
      go_ret
      exact ⟨by rw [HF.out]; rfl, hb1⟩
    · have hd9 : decide (0 < (len : Int)) = false := by simp; omega
      go_wp2_with (fail)
      go_ret
      exact ⟨by rw [HF.out]; rfl, hb1⟩
  · skip
    have HF := Lib.hid (show headB 5 n s len = true by unfold headB; simp [h0, h1, h2, h3])
    have d0 : decide ((0 : Int) ≤ n) = true := by simp; omega
    have d1 : decide (n ≤ 576460752303423487) = true := by simp; omega
    have d2 : ((len : Int) == 0) = true := by simp; omega
    subst h2
    clear h0 h1 h3
    go_enter Tryz.func37, Tryz.ntmps37
    go_upto_region 19 with (fail)
    refine wp_world (fun V => Blk V W.heap.size 35 #[.int .i64 5, .int .i64 n, .string ⟨[].toArray⟩, .slice A len c] ∧ Below W.heap.size W V) ⟨Blk.new _ _ _, below_alloc _ _⟩ ?_
    rintro V1 ⟨hB1, hb1⟩
    go_loopw [3, 4] (fun v i wr => ∃ (k : Nat) (r : Bool), k ≤ len ∧ i = .int .i64 k ∧ v = .bool r ∧ ((r = true ∧ TV.isL (l.take k) = true) ∨ (r = false ∧ TV.isL l = false)) ∧ Blk wr W.heap.size 35 #[.int .i64 5, .int .i64 n, .string ⟨[].toArray⟩, .slice A len c] ∧ Below W.heap.size W wr) (fun _ i _ => len - (intOf i).toNat)
    case atStart => exact ⟨0, true, Nat.zero_le _, rfl, rfl, .inl ⟨rfl, by simp [TV.isL]⟩, hB1, hb1⟩
    case round =>
      obtain ⟨k, r, hk, rfl, rfl, hrr, hBr, hb⟩ := hrel
      clear hB1 hb1
      have hbr := below_step hW hb
      have t3 := hBr.cell 3
      by_cases hlt : k < len
      · have hd8 : decide (k < len) = true := by simp; omega
        rcases hrr with ⟨rfl, hall⟩ | ⟨rfl, hno⟩
        · have hkl : k < l.length := by rw [HLEN.out]; exact hlt
          obtain ⟨b, o, A', c', rfl, h0, h1, h2, h3, hR'⟩ := hR.item hkl
          have e0 := (hbr.cell (World.block_lt_of_cell? w0 _ h0)).trans h0
          have e1 := (hbr.cell (World.block_lt_of_cell? w0 _ h1)).trans h1
          have e2 := (hbr.cell (World.block_lt_of_cell? w0 _ h2)).trans h2
          have e3 := (hbr.cell (World.block_lt_of_cell? w0 _ h3)).trans h3
          have HC := Lib.hid (HIT.out k hkl A' c' wr hbr hR')
          have HNX : Hid ((l[k].isT = true ∧ TV.isL (l.take (k + 1)) = true) ∨ (l[k].isT = false ∧ TV.isL l = false)) := by
            cases hti : l[k].isT with
            | true => exact .inl ⟨rfl, by rw [isL_take l k hkl, hall, hti]; rfl⟩
            | false => exact .inr ⟨rfl, isL_no l k hkl hti⟩
          generalize l[k] = ti at *
          generalize ti.items.length = tl at *
          have q1 : (0 : Int) ≤ (k : Int) := by omega
          have q2 : (k : Int) < (len : Int) := by omega
          clear h0 h1 h2 h3 hkl hR' hall
          go_wp2_with (go_at_call 37; refine HC.out.mono ?_; rintro e w5 ⟨rfl, hb5⟩)
          go_roundw
          case rel => exact ⟨k + 1, ti.isT, by omega, by go_num, rfl, HNX.out, hBr.keep hb5, below_step hb hb5⟩
          case measure => simp [intOf]; omega
        · have HNO := Lib.hid hno
          clear hno
          go_wp2_with (fail)
          go_ret
          exact ⟨by rw [HF.out, HNO.out]; rfl, hb⟩
      · obtain rfl : k = len := by omega
        have hd8 : decide (k < k) = false := by simp
        have HRR := Lib.hid (show r = TV.isL l by
          rw [List.take_of_length_le (by rw [HLEN.out]; exact Nat.le_refl _)] at hrr
          rcases hrr with ⟨h1, h2⟩ | ⟨h1, h2⟩
          · rw [h1, h2]
          · rw [h1, h2])
        clear hrr
        go_wp2_with (fail)
        go_ret
        exact ⟨by rw [HF.out, HRR.out]; rfl, hb⟩

set_option maxRecDepth 100000 in
set_option maxHeartbeats 4000000 in
theorem ris_k4 (n : Int) (s : List UInt8) (l : List TV) (A : Option Addr) (len c : Nat) (w0 W : World) (hlen : l.length = len) (hlc : len ≤ 9223372036854775807) (hsl : s.length ≤ 9223372036854775807) (hW : Below w0.heap.size w0 W) (hR : RdM w0 A c l) (hit : RisItem w0 l) :
    Calls Tryz.prog 37 #[.agg #[.int .i64 4, .int .i64 n, .string ⟨s.toArray⟩, .slice A len c]] W (IsEnds W 4 n s len (TV.isL l)) := by
  have HIT := Lib.hid hit
  have HLEN := Lib.hid hlen
  clear hit hlen
  have hway : (¬ (0 : Int) ≤ n) ∨ ((0 : Int) ≤ n ∧ ¬ n ≤ 576460752303423487) ∨ ((0 : Int) ≤ n ∧ n ≤ 576460752303423487 ∧ ¬ s = []) ∨ ((0 : Int) ≤ n ∧ n ≤ 576460752303423487 ∧ s = []) := by
    by_cases g0 : (0 : Int) ≤ n
    rotate_left
    · exact .inl (g0)
    by_cases g1 : n ≤ 576460752303423487
    rotate_left
    · exact .inr (.inl (⟨g0, g1⟩))
    by_cases g2 : s = []
    rotate_left
    · exact .inr (.inr (.inl (⟨g0, g1, g2⟩)))
    exact .inr (.inr (.inr (⟨g0, g1, g2⟩)))
  rcases hway with h0 | ⟨h0, h1⟩ | ⟨h0, h1, h2⟩ | ⟨h0, h1, h2⟩
  · skip
    have HF := Lib.hid (show headB 4 n s len = false by unfold headB; simp [h0])
    have d0 : decide ((0 : Int) ≤ n) = false := by simp; omega
    clear h0
    go_enter Tryz.func37, Tryz.ntmps37
    go_upto_region 19 with (fail)
    refine wp_world (fun V => Blk V W.heap.size 35 #[.int .i64 4, .int .i64 n, .string ⟨s.toArray⟩, .slice A len c] ∧ Below W.heap.size W V) ⟨Blk.new _ _ _, below_alloc _ _⟩ ?_
    rintro V1 ⟨hB1, hb1⟩
    have t3 := hB1.cell 3
    refine wp_loop_rounds 1 ?_
    rw [rounds_succ]
    by_cases hz : 0 < len
    · have hd9 : decide (0 < (len : Int)) = true := by simp; omega
      go_wp2_with (fail)
      go_ret
      exact ⟨by rw [HF.out]; rfl, hb1⟩
    · have hd9 : decide (0 < (len : Int)) = false := by simp; omega
      go_wp2_with (fail)
      go_ret
      exact ⟨by rw [HF.out]; rfl, hb1⟩
  · skip
    have HF := Lib.hid (show headB 4 n s len = false by unfold headB; simp [h0, h1])
    have d0 : decide ((0 : Int) ≤ n) = true := by simp; omega
    have d1 : decide (n ≤ 576460752303423487) = false := by simp; omega
    clear h0 h1
    go_enter Tryz.func37, Tryz.ntmps37
    go_upto_region 19 with (fail)
    refine wp_world (fun V => Blk V W.heap.size 35 #[.int .i64 4, .int .i64 n, .string ⟨s.toArray⟩, .slice A len c] ∧ Below W.heap.size W V) ⟨Blk.new _ _ _, below_alloc _ _⟩ ?_
    rintro V1 ⟨hB1, hb1⟩
    have t3 := hB1.cell 3
    refine wp_loop_rounds 1 ?_
    rw [rounds_succ]
    by_cases hz : 0 < len
    · have hd9 : decide (0 < (len : Int)) = true := by simp; omega
      go_wp2_with (fail)
      go_ret
      exact ⟨by rw [HF.out]; rfl, hb1⟩
    · have hd9 : decide (0 < (len : Int)) = false := by simp; omega
      go_wp2_with (fail)
      go_ret
      exact ⟨by rw [HF.out]; rfl, hb1⟩
  · skip
    have HF := Lib.hid (show headB 4 n s len = false by unfold headB; simp [h0, h1, h2])
    have d0 : decide ((0 : Int) ≤ n) = true := by simp; omega
    have d1 : decide (n ≤ 576460752303423487) = true := by simp; omega
    have d2 : (s == []) = false := by simp [h2]
    have d3 : s.isEmpty = false := by simp [h2]
    clear h0 h1 h2
    go_enter Tryz.func37, Tryz.ntmps37
    go_upto_region 19 with (fail)
    refine wp_world (fun V => Blk V W.heap.size 35 #[.int .i64 4, .int .i64 n, .string ⟨s.toArray⟩, .slice A len c] ∧ Below W.heap.size W V) ⟨Blk.new _ _ _, below_alloc _ _⟩ ?_
    rintro V1 ⟨hB1, hb1⟩
    have t3 := hB1.cell 3
    refine wp_loop_rounds 1 ?_
    rw [rounds_succ]
    by_cases hz : 0 < len
    · have hd9 : decide (0 < (len : Int)) = true := by simp; omega
      go_wp2_with (fail)
      go_ret
      exact ⟨by rw [HF.out]; rfl, hb1⟩
    · have hd9 : decide (0 < (len : Int)) = false := by simp; omega
      go_wp2_with (fail)
      go_ret
      exact ⟨by rw [HF.out]; rfl, hb1⟩
  · skip
    have HF := Lib.hid (show headB 4 n s len = true by unfold headB; simp [h0, h1, h2])
    have d0 : decide ((0 : Int) ≤ n) = true := by simp; omega
    have d1 : decide (n ≤ 576460752303423487) = true := by simp; omega
    subst h2
    clear h0 h1
    go_enter Tryz.func37, Tryz.ntmps37
    go_upto_region 19 with (fail)
    refine wp_world (fun V => Blk V W.heap.size 35 #[.int .i64 4, .int .i64 n, .string ⟨[].toArray⟩, .slice A len c] ∧ Below W.heap.size W V) ⟨Blk.new _ _ _, below_alloc _ _⟩ ?_
    rintro V1 ⟨hB1, hb1⟩
    go_loopw [3, 4] (fun v i wr => ∃ (k : Nat) (r : Bool), k ≤ len ∧ i = .int .i64 k ∧ v = .bool r ∧ ((r = true ∧ TV.isL (l.take k) = true) ∨ (r = false ∧ TV.isL l = false)) ∧ Blk wr W.heap.size 35 #[.int .i64 4, .int .i64 n, .string ⟨[].toArray⟩, .slice A len c] ∧ Below W.heap.size W wr) (fun _ i _ => len - (intOf i).toNat)
    case atStart => exact ⟨0, true, Nat.zero_le _, rfl, rfl, .inl ⟨rfl, by simp [TV.isL]⟩, hB1, hb1⟩
    case round =>
      obtain ⟨k, r, hk, rfl, rfl, hrr, hBr, hb⟩ := hrel
      clear hB1 hb1
      have hbr := below_step hW hb
      have t3 := hBr.cell 3
      by_cases hlt : k < len
      · have hd8 : decide (k < len) = true := by simp; omega
        rcases hrr with ⟨rfl, hall⟩ | ⟨rfl, hno⟩
        · have hkl : k < l.length := by rw [HLEN.out]; exact hlt
          obtain ⟨b, o, A', c', rfl, h0, h1, h2, h3, hR'⟩ := hR.item hkl
          have e0 := (hbr.cell (World.block_lt_of_cell? w0 _ h0)).trans h0
          have e1 := (hbr.cell (World.block_lt_of_cell? w0 _ h1)).trans h1
          have e2 := (hbr.cell (World.block_lt_of_cell? w0 _ h2)).trans h2
          have e3 := (hbr.cell (World.block_lt_of_cell? w0 _ h3)).trans h3
          have HC := Lib.hid (HIT.out k hkl A' c' wr hbr hR')
          have HNX : Hid ((l[k].isT = true ∧ TV.isL (l.take (k + 1)) = true) ∨ (l[k].isT = false ∧ TV.isL l = false)) := by
            cases hti : l[k].isT with
            | true => exact .inl ⟨rfl, by rw [isL_take l k hkl, hall, hti]; rfl⟩
            | false => exact .inr ⟨rfl, isL_no l k hkl hti⟩
          generalize l[k] = ti at *
          generalize ti.items.length = tl at *
          have q1 : (0 : Int) ≤ (k : Int) := by omega
          have q2 : (k : Int) < (len : Int) := by omega
          clear h0 h1 h2 h3 hkl hR' hall
          go_wp2_with (go_at_call 37; refine HC.out.mono ?_; rintro e w5 ⟨rfl, hb5⟩)
          go_roundw
          case rel => exact ⟨k + 1, ti.isT, by omega, by go_num, rfl, HNX.out, hBr.keep hb5, below_step hb hb5⟩
          case measure => simp [intOf]; omega
        · have HNO := Lib.hid hno
          clear hno
          go_wp2_with (fail)
          go_ret
          exact ⟨by rw [HF.out, HNO.out]; rfl, hb⟩
      · obtain rfl : k = len := by omega
        have hd8 : decide (k < k) = false := by simp
        have HRR := Lib.hid (show r = TV.isL l by
          rw [List.take_of_length_le (by rw [HLEN.out]; exact Nat.le_refl _)] at hrr
          rcases hrr with ⟨h1, h2⟩ | ⟨h1, h2⟩
          · rw [h1, h2]
          · rw [h1, h2])
        clear hrr
        go_wp2_with (fail)
        go_ret
        exact ⟨by rw [HF.out, HRR.out]; rfl, hb⟩

set_option maxRecDepth 100000 in
set_option maxHeartbeats 4000000 in
theorem ris_k6 (n : Int) (s : List UInt8) (l : List TV) (A : Option Addr) (len c : Nat) (w0 W : World) (hlen : l.length = len) (hlc : len ≤ 9223372036854775807) (hsl : s.length ≤ 9223372036854775807) (hW : Below w0.heap.size w0 W) (hR : RdM w0 A c l) (hit : RisItem w0 l) :
    Calls Tryz.prog 37 #[.agg #[.int .i64 6, .int .i64 n, .string ⟨s.toArray⟩, .slice A len c]] W (IsEnds W 6 n s len (TV.isL l)) := by
  have HIT := Lib.hid hit
  have HLEN := Lib.hid hlen
  clear hit hlen
  have hway : (¬ n = 0) ∨ (n = 0 ∧ ¬ s = []) ∨ (n = 0 ∧ s = []) := by
    by_cases g0 : n = 0
    rotate_left
    · exact .inl (g0)
    by_cases g1 : s = []
    rotate_left
    · exact .inr (.inl (⟨g0, g1⟩))
    exact .inr (.inr (⟨g0, g1⟩))
  rcases hway with h0 | ⟨h0, h1⟩ | ⟨h0, h1⟩
  · skip
    have HF := Lib.hid (show headB 6 n s len = false by unfold headB; simp [h0])
    have d0 : (n == 0) = false := by simp; omega
    clear h0
    go_enter Tryz.func37, Tryz.ntmps37
    go_upto_region 19 with (fail)
    refine wp_world (fun V => Blk V W.heap.size 35 #[.int .i64 6, .int .i64 n, .string ⟨s.toArray⟩, .slice A len c] ∧ Below W.heap.size W V) ⟨Blk.new _ _ _, below_alloc _ _⟩ ?_
    rintro V1 ⟨hB1, hb1⟩
    have t3 := hB1.cell 3
    refine wp_loop_rounds 1 ?_
    rw [rounds_succ]
    by_cases hz : 0 < len
    · have hd9 : decide (0 < (len : Int)) = true := by simp; omega
      go_wp2_with (fail)
      go_ret
      exact ⟨by rw [HF.out]; rfl, hb1⟩
    · have hd9 : decide (0 < (len : Int)) = false := by simp; omega
      go_wp2_with (fail)
      go_ret
      exact ⟨by rw [HF.out]; rfl, hb1⟩
  · skip
    have HF := Lib.hid (show headB 6 n s len = false by unfold headB; simp [h0, h1])
    have d0 : (n == 0) = true := by simp; omega
    have d1 : (s == []) = false := by simp [h1]
    have d2 : s.isEmpty = false := by simp [h1]
    clear h0 h1
    go_enter Tryz.func37, Tryz.ntmps37
    go_upto_region 19 with (fail)
    refine wp_world (fun V => Blk V W.heap.size 35 #[.int .i64 6, .int .i64 n, .string ⟨s.toArray⟩, .slice A len c] ∧ Below W.heap.size W V) ⟨Blk.new _ _ _, below_alloc _ _⟩ ?_
    rintro V1 ⟨hB1, hb1⟩
    have t3 := hB1.cell 3
    refine wp_loop_rounds 1 ?_
    rw [rounds_succ]
    by_cases hz : 0 < len
    · have hd9 : decide (0 < (len : Int)) = true := by simp; omega
      go_wp2_with (fail)
      go_ret
      exact ⟨by rw [HF.out]; rfl, hb1⟩
    · have hd9 : decide (0 < (len : Int)) = false := by simp; omega
      go_wp2_with (fail)
      go_ret
      exact ⟨by rw [HF.out]; rfl, hb1⟩
  · skip
    have HF := Lib.hid (show headB 6 n s len = true by unfold headB; simp [h0, h1])
    have d0 : (n == 0) = true := by simp; omega
    subst h1
    clear h0
    go_enter Tryz.func37, Tryz.ntmps37
    go_upto_region 19 with (fail)
    refine wp_world (fun V => Blk V W.heap.size 35 #[.int .i64 6, .int .i64 n, .string ⟨[].toArray⟩, .slice A len c] ∧ Below W.heap.size W V) ⟨Blk.new _ _ _, below_alloc _ _⟩ ?_
    rintro V1 ⟨hB1, hb1⟩
    go_loopw [3, 4] (fun v i wr => ∃ (k : Nat) (r : Bool), k ≤ len ∧ i = .int .i64 k ∧ v = .bool r ∧ ((r = true ∧ TV.isL (l.take k) = true) ∨ (r = false ∧ TV.isL l = false)) ∧ Blk wr W.heap.size 35 #[.int .i64 6, .int .i64 n, .string ⟨[].toArray⟩, .slice A len c] ∧ Below W.heap.size W wr) (fun _ i _ => len - (intOf i).toNat)
    case atStart => exact ⟨0, true, Nat.zero_le _, rfl, rfl, .inl ⟨rfl, by simp [TV.isL]⟩, hB1, hb1⟩
    case round =>
      obtain ⟨k, r, hk, rfl, rfl, hrr, hBr, hb⟩ := hrel
      clear hB1 hb1
      have hbr := below_step hW hb
      have t3 := hBr.cell 3
      by_cases hlt : k < len
      · have hd8 : decide (k < len) = true := by simp; omega
        rcases hrr with ⟨rfl, hall⟩ | ⟨rfl, hno⟩
        · have hkl : k < l.length := by rw [HLEN.out]; exact hlt
          obtain ⟨b, o, A', c', rfl, h0, h1, h2, h3, hR'⟩ := hR.item hkl
          have e0 := (hbr.cell (World.block_lt_of_cell? w0 _ h0)).trans h0
          have e1 := (hbr.cell (World.block_lt_of_cell? w0 _ h1)).trans h1
          have e2 := (hbr.cell (World.block_lt_of_cell? w0 _ h2)).trans h2
          have e3 := (hbr.cell (World.block_lt_of_cell? w0 _ h3)).trans h3
          have HC := Lib.hid (HIT.out k hkl A' c' wr hbr hR')
          have HNX : Hid ((l[k].isT = true ∧ TV.isL (l.take (k + 1)) = true) ∨ (l[k].isT = false ∧ TV.isL l = false)) := by
            cases hti : l[k].isT with
            | true => exact .inl ⟨rfl, by rw [isL_take l k hkl, hall, hti]; rfl⟩
            | false => exact .inr ⟨rfl, isL_no l k hkl hti⟩
          generalize l[k] = ti at *
          generalize ti.items.length = tl at *
          have q1 : (0 : Int) ≤ (k : Int) := by omega
          have q2 : (k : Int) < (len : Int) := by omega
          clear h0 h1 h2 h3 hkl hR' hall
          go_wp2_with (go_at_call 37; refine HC.out.mono ?_; rintro e w5 ⟨rfl, hb5⟩)
          go_roundw
          case rel => exact ⟨k + 1, ti.isT, by omega, by go_num, rfl, HNX.out, hBr.keep hb5, below_step hb hb5⟩
          case measure => simp [intOf]; omega
        · have HNO := Lib.hid hno
          clear hno
          go_wp2_with (fail)
          go_ret
          exact ⟨by rw [HF.out, HNO.out]; rfl, hb⟩
      · obtain rfl : k = len := by omega
        have hd8 : decide (k < k) = false := by simp
        have HRR := Lib.hid (show r = TV.isL l by
          rw [List.take_of_length_le (by rw [HLEN.out]; exact Nat.le_refl _)] at hrr
          rcases hrr with ⟨h1, h2⟩ | ⟨h1, h2⟩
          · rw [h1, h2]
          · rw [h1, h2])
        clear hrr
        go_wp2_with (fail)
        go_ret
        exact ⟨by rw [HF.out, HRR.out]; rfl, hb⟩

set_option maxRecDepth 100000 in
set_option maxHeartbeats 4000000 in
theorem ris_k7 (n : Int) (s : List UInt8) (l : List TV) (A : Option Addr) (len c : Nat) (w0 W : World) (hlen : l.length = len) (hlc : len ≤ 9223372036854775807) (hsl : s.length ≤ 9223372036854775807) (hW : Below w0.heap.size w0 W) (hR : RdM w0 A c l) (hit : RisItem w0 l) :
    Calls Tryz.prog 37 #[.agg #[.int .i64 7, .int .i64 n, .string ⟨s.toArray⟩, .slice A len c]] W (IsEnds W 7 n s len (TV.isL l)) := by
  have HIT := Lib.hid hit
  have HLEN := Lib.hid hlen
  clear hit hlen
  have hway : (¬ n = 0) ∨ (n = 0 ∧ ¬ s = []) ∨ (n = 0 ∧ s = [] ∧ ¬ len = 0) ∨ (n = 0 ∧ s = [] ∧ len = 0) := by
    by_cases g0 : n = 0
    rotate_left
    · exact .inl (g0)
    by_cases g1 : s = []
    rotate_left
    · exact .inr (.inl (⟨g0, g1⟩))
    by_cases g2 : len = 0
    rotate_left
    · exact .inr (.inr (.inl (⟨g0, g1, g2⟩)))
    exact .inr (.inr (.inr (⟨g0, g1, g2⟩)))
  rcases hway with h0 | ⟨h0, h1⟩ | ⟨h0, h1, h2⟩ | ⟨h0, h1, h2⟩
  · skip
    have HF := Lib.hid (show headB 7 n s len = false by unfold headB; simp [h0])
    have d0 : (n == 0) = false := by simp; omega
    clear h0
    go_enter Tryz.func37, Tryz.ntmps37
    go_upto_region 19 with (fail)
    refine wp_world (fun V => Blk V W.heap.size 35 #[.int .i64 7, .int .i64 n, .string ⟨s.toArray⟩, .slice A len c] ∧ Below W.heap.size W V) ⟨Blk.new _ _ _, below_alloc _ _⟩ ?_
    rintro V1 ⟨hB1, hb1⟩
    have t3 := hB1.cell 3
    refine wp_loop_rounds 1 ?_
    rw [rounds_succ]
    by_cases hz : 0 < len
    · have hd9 : decide (0 < (len : Int)) = true := by simp; omega
      go_wp2_with (fail)
      go_ret
      exact ⟨by rw [HF.out]; rfl, hb1⟩
    · have hd9 : decide (0 < (len : Int)) = false := by simp; omega
      go_wp2_with (fail)
      go_ret
      exact ⟨by rw [HF.out]; rfl, hb1⟩
  · skip
    have HF := Lib.hid (show headB 7 n s len = false by unfold headB; simp [h0, h1])
    have d0 : (n == 0) = true := by simp; omega
    have d1 : (s == []) = false := by simp [h1]
    have d2 : s.isEmpty = false := by simp [h1]
    clear h0 h1
    go_enter Tryz.func37, Tryz.ntmps37
    go_upto_region 19 with (fail)
    refine wp_world (fun V => Blk V W.heap.size 35 #[.int .i64 7, .int .i64 n, .string ⟨s.toArray⟩, .slice A len c] ∧ Below W.heap.size W V) ⟨Blk.new _ _ _, below_alloc _ _⟩ ?_
    rintro V1 ⟨hB1, hb1⟩
    have t3 := hB1.cell 3
    refine wp_loop_rounds 1 ?_
    rw [rounds_succ]
    by_cases hz : 0 < len
    · have hd9 : decide (0 < (len : Int)) = true := by simp; omega
      go_wp2_with (fail)
      go_ret
      exact ⟨by rw [HF.out]; rfl, hb1⟩
    · have hd9 : decide (0 < (len : Int)) = false := by simp; omega
      go_wp2_with (fail)
      go_ret
      exact ⟨by rw [HF.out]; rfl, hb1⟩
  · skip
    have HF := Lib.hid (show headB 7 n s len = false by unfold headB; simp [h0, h1, h2])
    have d0 : (n == 0) = true := by simp; omega
    have d1 : ((len : Int) == 0) = false := by simp; omega
    subst h1
    clear h0 h2
    go_enter Tryz.func37, Tryz.ntmps37
    go_upto_region 19 with (fail)
    refine wp_world (fun V => Blk V W.heap.size 35 #[.int .i64 7, .int .i64 n, .string ⟨[].toArray⟩, .slice A len c] ∧ Below W.heap.size W V) ⟨Blk.new _ _ _, below_alloc _ _⟩ ?_
    rintro V1 ⟨hB1, hb1⟩
    have t3 := hB1.cell 3
    refine wp_loop_rounds 1 ?_
    rw [rounds_succ]
    by_cases hz : 0 < len
    · have hd9 : decide (0 < (len : Int)) = true := by simp; omega
      go_wp2_with (fail)
      go_ret
      exact ⟨by rw [HF.out]; rfl, hb1⟩
    · have hd9 : decide (0 < (len : Int)) = false := by simp; omega
      go_wp2_with (fail)
      go_ret
      exact ⟨by rw [HF.out]; rfl, hb1⟩
  · skip
    have HF := Lib.hid (show headB 7 n s len = true by unfold headB; simp [h0, h1, h2])
    have d0 : (n == 0) = true := by simp; omega
    have d1 : ((len : Int) == 0) = true := by simp; omega
    subst h1
    clear h0 h2
    go_enter Tryz.func37, Tryz.ntmps37
    go_upto_region 19 with (fail)
    refine wp_world (fun V => Blk V W.heap.size 35 #[.int .i64 7, .int .i64 n, .string ⟨[].toArray⟩, .slice A len c] ∧ Below W.heap.size W V) ⟨Blk.new _ _ _, below_alloc _ _⟩ ?_
    rintro V1 ⟨hB1, hb1⟩
    go_loopw [3, 4] (fun v i wr => ∃ (k : Nat) (r : Bool), k ≤ len ∧ i = .int .i64 k ∧ v = .bool r ∧ ((r = true ∧ TV.isL (l.take k) = true) ∨ (r = false ∧ TV.isL l = false)) ∧ Blk wr W.heap.size 35 #[.int .i64 7, .int .i64 n, .string ⟨[].toArray⟩, .slice A len c] ∧ Below W.heap.size W wr) (fun _ i _ => len - (intOf i).toNat)
    case atStart => exact ⟨0, true, Nat.zero_le _, rfl, rfl, .inl ⟨rfl, by simp [TV.isL]⟩, hB1, hb1⟩
    case round =>
      obtain ⟨k, r, hk, rfl, rfl, hrr, hBr, hb⟩ := hrel
      clear hB1 hb1
      have hbr := below_step hW hb
      have t3 := hBr.cell 3
      by_cases hlt : k < len
      · have hd8 : decide (k < len) = true := by simp; omega
        rcases hrr with ⟨rfl, hall⟩ | ⟨rfl, hno⟩
        · have hkl : k < l.length := by rw [HLEN.out]; exact hlt
          obtain ⟨b, o, A', c', rfl, h0, h1, h2, h3, hR'⟩ := hR.item hkl
          have e0 := (hbr.cell (World.block_lt_of_cell? w0 _ h0)).trans h0
          have e1 := (hbr.cell (World.block_lt_of_cell? w0 _ h1)).trans h1
          have e2 := (hbr.cell (World.block_lt_of_cell? w0 _ h2)).trans h2
          have e3 := (hbr.cell (World.block_lt_of_cell? w0 _ h3)).trans h3
          have HC := Lib.hid (HIT.out k hkl A' c' wr hbr hR')
          have HNX : Hid ((l[k].isT = true ∧ TV.isL (l.take (k + 1)) = true) ∨ (l[k].isT = false ∧ TV.isL l = false)) := by
            cases hti : l[k].isT with
            | true => exact .inl ⟨rfl, by rw [isL_take l k hkl, hall, hti]; rfl⟩
            | false => exact .inr ⟨rfl, isL_no l k hkl hti⟩
          generalize l[k] = ti at *
          generalize ti.items.length = tl at *
          have q1 : (0 : Int) ≤ (k : Int) := by omega
          have q2 : (k : Int) < (len : Int) := by omega
          clear h0 h1 h2 h3 hkl hR' hall
          go_wp2_with (go_at_call 37; refine HC.out.mono ?_; rintro e w5 ⟨rfl, hb5⟩)
          go_roundw
          case rel => exact ⟨k + 1, ti.isT, by omega, by go_num, rfl, HNX.out, hBr.keep hb5, below_step hb hb5⟩
          case measure => simp [intOf]; omega
        · have HNO := Lib.hid hno
          clear hno
          go_wp2_with (fail)
          go_ret
          exact ⟨by rw [HF.out, HNO.out]; rfl, hb⟩
      · obtain rfl : k = len := by omega
        have hd8 : decide (k < k) = false := by simp
        have HRR := Lib.hid (show r = TV.isL l by
          rw [List.take_of_length_le (by rw [HLEN.out]; exact Nat.le_refl _)] at hrr
          rcases hrr with ⟨h1, h2⟩ | ⟨h1, h2⟩
          · rw [h1, h2]
          · rw [h1, h2])
        clear hrr
        go_wp2_with (fail)
        go_ret
        exact ⟨by rw [HF.out, HRR.out]; rfl, hb⟩

set_option maxRecDepth 100000 in
set_option maxHeartbeats 4000000 in
theorem ris_k8 (n : Int) (s : List UInt8) (l : List TV) (A : Option Addr) (len c : Nat) (w0 W : World) (hlen : l.length = len) (hlc : len ≤ 9223372036854775807) (hsl : s.length ≤ 9223372036854775807) (hW : Below w0.heap.size w0 W) (hR : RdM w0 A c l) (hit : RisItem w0 l) :
    Calls Tryz.prog 37 #[.agg #[.int .i64 8, .int .i64 n, .string ⟨s.toArray⟩, .slice A len c]] W (IsEnds W 8 n s len (TV.isL l)) := by
  have HIT := Lib.hid hit
  have HLEN := Lib.hid hlen
  clear hit hlen
  have hway : (¬ n = 0) ∨ (n = 0 ∧ ¬ s = []) ∨ (n = 0 ∧ s = [] ∧ ¬ len = 2) ∨ (n = 0 ∧ s = [] ∧ len = 2) := by
    by_cases g0 : n = 0
    rotate_left
    · exact .inl (g0)
    by_cases g1 : s = []
    rotate_left
    · exact .inr (.inl (⟨g0, g1⟩))
    by_cases g2 : len = 2
    rotate_left
    · exact .inr (.inr (.inl (⟨g0, g1, g2⟩)))
    exact .inr (.inr (.inr (⟨g0, g1, g2⟩)))
  rcases hway with h0 | ⟨h0, h1⟩ | ⟨h0, h1, h2⟩ | ⟨h0, h1, h2⟩
  · skip
    have HF := Lib.hid (show headB 8 n s len = false by unfold headB; simp [h0])
    have d0 : (n == 0) = false := by simp; omega
    clear h0
    go_enter Tryz.func37, Tryz.ntmps37
    go_upto_region 19 with (fail)
    refine wp_world (fun V => Blk V W.heap.size 35 #[.int .i64 8, .int .i64 n, .string ⟨s.toArray⟩, .slice A len c] ∧ Below W.heap.size W V) ⟨Blk.new _ _ _, below_alloc _ _⟩ ?_
    rintro V1 ⟨hB1, hb1⟩
    have t3 := hB1.cell 3
    refine wp_loop_rounds 1 ?_
    rw [rounds_succ]
    by_cases hz : 0 < len
    · have hd9 : decide (0 < (len : Int)) = true := by simp; omega
      go_wp2_with (fail)
      go_ret
      exact ⟨by rw [HF.out]; rfl, hb1⟩
    · have hd9 : decide (0 < (len : Int)) = false := by simp; omega
      go_wp2_with (fail)
      go_ret
      exact ⟨by rw [HF.out]; rfl, hb1⟩
  · skip
    have HF := Lib.hid (show headB 8 n s len = false by unfold headB; simp [h0, h1])
    have d0 : (n == 0) = true := by simp; omega
    have d1 : (s == []) = false := by simp [h1]
    have d2 : s.isEmpty = false := by simp [h1]
    clear h0 h1
    go_enter Tryz.func37, Tryz.ntmps37
    go_upto_region 19 with (fail)
    refine wp_world (fun V => Blk V W.heap.size 35 #[.int .i64 8, .int .i64 n, .string ⟨s.toArray⟩, .slice A len c] ∧ Below W.heap.size W V) ⟨Blk.new _ _ _, below_alloc _ _⟩ ?_
    rintro V1 ⟨hB1, hb1⟩
    have t3 := hB1.cell 3
    refine wp_loop_rounds 1 ?_
    rw [rounds_succ]
    by_cases hz : 0 < len
    · have hd9 : decide (0 < (len : Int)) = true := by simp; omega
      go_wp2_with (fail)
      go_ret
      exact ⟨by rw [HF.out]; rfl, hb1⟩
    · have hd9 : decide (0 < (len : Int)) = false := by simp; omega
      go_wp2_with (fail)
      go_ret
      exact ⟨by rw [HF.out]; rfl, hb1⟩
  · skip
    have HF := Lib.hid (show headB 8 n s len = false by unfold headB; simp [h0, h1, h2])
    have d0 : (n == 0) = true := by simp; omega
    have d1 : ((len : Int) == 2) = false := by simp; omega
    subst h1
    clear h0 h2
    go_enter Tryz.func37, Tryz.ntmps37
    go_upto_region 19 with (fail)
    refine wp_world (fun V => Blk V W.heap.size 35 #[.int .i64 8, .int .i64 n, .string ⟨[].toArray⟩, .slice A len c] ∧ Below W.heap.size W V) ⟨Blk.new _ _ _, below_alloc _ _⟩ ?_
    rintro V1 ⟨hB1, hb1⟩
    have t3 := hB1.cell 3
    refine wp_loop_rounds 1 ?_
    rw [rounds_succ]
    by_cases hz : 0 < len
    · have hd9 : decide (0 < (len : Int)) = true := by simp; omega
      go_wp2_with (fail)
      go_ret
      exact ⟨by rw [HF.out]; rfl, hb1⟩
    · have hd9 : decide (0 < (len : Int)) = false := by simp; omega
      go_wp2_with (fail)
      go_ret
      exact ⟨by rw [HF.out]; rfl, hb1⟩
  · skip
    have HF := Lib.hid (show headB 8 n s len = true by unfold headB; simp [h0, h1, h2])
    have d0 : (n == 0) = true := by simp; omega
    have d1 : ((len : Int) == 2) = true := by simp; omega
    subst h1
    clear h0 h2
    go_enter Tryz.func37, Tryz.ntmps37
    go_upto_region 19 with (fail)
    refine wp_world (fun V => Blk V W.heap.size 35 #[.int .i64 8, .int .i64 n, .string ⟨[].toArray⟩, .slice A len c] ∧ Below W.heap.size W V) ⟨Blk.new _ _ _, below_alloc _ _⟩ ?_
    rintro V1 ⟨hB1, hb1⟩
    go_loopw [3, 4] (fun v i wr => ∃ (k : Nat) (r : Bool), k ≤ len ∧ i = .int .i64 k ∧ v = .bool r ∧ ((r = true ∧ TV.isL (l.take k) = true) ∨ (r = false ∧ TV.isL l = false)) ∧ Blk wr W.heap.size 35 #[.int .i64 8, .int .i64 n, .string ⟨[].toArray⟩, .slice A len c] ∧ Below W.heap.size W wr) (fun _ i _ => len - (intOf i).toNat)
    case atStart => exact ⟨0, true, Nat.zero_le _, rfl, rfl, .inl ⟨rfl, by simp [TV.isL]⟩, hB1, hb1⟩
    case round =>
      obtain ⟨k, r, hk, rfl, rfl, hrr, hBr, hb⟩ := hrel
      clear hB1 hb1
      have hbr := below_step hW hb
      have t3 := hBr.cell 3
      by_cases hlt : k < len
      · have hd8 : decide (k < len) = true := by simp; omega
        rcases hrr with ⟨rfl, hall⟩ | ⟨rfl, hno⟩
        · have hkl : k < l.length := by rw [HLEN.out]; exact hlt
          obtain ⟨b, o, A', c', rfl, h0, h1, h2, h3, hR'⟩ := hR.item hkl
          have e0 := (hbr.cell (World.block_lt_of_cell? w0 _ h0)).trans h0
          have e1 := (hbr.cell (World.block_lt_of_cell? w0 _ h1)).trans h1
          have e2 := (hbr.cell (World.block_lt_of_cell? w0 _ h2)).trans h2
          have e3 := (hbr.cell (World.block_lt_of_cell? w0 _ h3)).trans h3
          have HC := Lib.hid (HIT.out k hkl A' c' wr hbr hR')
          have HNX : Hid ((l[k].isT = true ∧ TV.isL (l.take (k + 1)) = true) ∨ (l[k].isT = false ∧ TV.isL l = false)) := by
            cases hti : l[k].isT with
            | true => exact .inl ⟨rfl, by rw [isL_take l k hkl, hall, hti]; rfl⟩
            | false => exact .inr ⟨rfl, isL_no l k hkl hti⟩
          generalize l[k] = ti at *
          generalize ti.items.length = tl at *
          have q1 : (0 : Int) ≤ (k : Int) := by omega
          have q2 : (k : Int) < (len : Int) := by omega
          clear h0 h1 h2 h3 hkl hR' hall
          go_wp2_with (go_at_call 37; refine HC.out.mono ?_; rintro e w5 ⟨rfl, hb5⟩)
          go_roundw
          case rel => exact ⟨k + 1, ti.isT, by omega, by go_num, rfl, HNX.out, hBr.keep hb5, below_step hb hb5⟩
          case measure => simp [intOf]; omega
        · have HNO := Lib.hid hno
          clear hno
          go_wp2_with (fail)
          go_ret
          exact ⟨by rw [HF.out, HNO.out]; rfl, hb⟩
      · obtain rfl : k = len := by omega
        have hd8 : decide (k < k) = false := by simp
        have HRR := Lib.hid (show r = TV.isL l by
          rw [List.take_of_length_le (by rw [HLEN.out]; exact Nat.le_refl _)] at hrr
          rcases hrr with ⟨h1, h2⟩ | ⟨h1, h2⟩
          · rw [h1, h2]
          · rw [h1, h2])
        clear hrr
        go_wp2_with (fail)
        go_ret
        exact ⟨by rw [HF.out, HRR.out]; rfl, hb⟩

set_option maxRecDepth 100000 in
set_option maxHeartbeats 2000000 in
theorem ris_other (k n : Int) (s : List UInt8) (l : List TV) (A : Option Addr) (len c : Nat) (W : World) (hlc : len ≤ 9223372036854775807) (h1 : k ≠ 1) (h2 : k ≠ 2) (h3 : k ≠ 3) (h4 : k ≠ 4) (h5 : k ≠ 5) (h6 : k ≠ 6) (h7 : k ≠ 7) (h8 : k ≠ 8) :
    Calls Tryz.prog 37 #[.agg #[.int .i64 k, .int .i64 n, .string ⟨s.toArray⟩, .slice A len c]] W (IsEnds W k n s len (TV.isL l)) := by
  have HF := Lib.hid (show headB k n s len = false by simp [headB, h1, h2, h3, h4, h5, h6, h7, h8])
  have d1 : (k == 1) = false := by simp [h1]
  have d2 : (k == 2) = false := by simp [h2]
  have d3 : (k == 3) = false := by simp [h3]
  have d4 : (k == 4) = false := by simp [h4]
  have d5 : (k == 5) = false := by simp [h5]
  have d6 : (k == 6) = false := by simp [h6]
  have d7 : (k == 7) = false := by simp [h7]
  have d8 : (k == 8) = false := by simp [h8]
  clear h1 h2 h3 h4 h5 h6 h7 h8
  go_enter Tryz.func37, Tryz.ntmps37
  go_upto_region 19 with (fail)
  refine wp_world (fun V => Blk V W.heap.size 35 #[.int .i64 k, .int .i64 n, .string ⟨s.toArray⟩, .slice A len c] ∧ Below W.heap.size W V) ⟨Blk.new _ _ _, below_alloc _ _⟩ ?_
  rintro V1 ⟨hB1, hb1⟩
  have t3 := hB1.cell 3
  refine wp_loop_rounds 1 ?_
  rw [rounds_succ]
  by_cases hz : 0 < len
  · have hd9 : decide (0 < (len : Int)) = true := by simp; omega
    go_wp2_with (fail)
    go_ret
    exact ⟨by rw [HF.out]; rfl, hb1⟩
  · have hd9 : decide (0 < (len : Int)) = false := by simp; omega
    go_wp2_with (fail)
    go_ret
    exact ⟨by rw [HF.out]; rfl, hb1⟩

theorem ris_any (N : Nat) : ∀ (t : TV) (A : Option Addr) (c : Nat) (w0 W : World), t.parts ≤ N → t.named → Below w0.heap.size w0 W → RdM w0 A c t.items →
    Calls Tryz.prog 37 #[.agg #[.int .i64 t.kind, .int .i64 t.int, .string ⟨t.name.toArray⟩, .slice A t.items.length c]] W fun e w' => e = .returned (.bool t.isT) ∧ Below W.heap.size W w' := by
  induction N with
  | zero => intro t A c w0 W ht; have := t.parts_pos; omega
  | succ N ih =>
    intro t A c w0 W ht hnm hW hR
    obtain ⟨hn1, hn2⟩ := (TV.named_iff t).1 hnm
    rw [TV.isT_eq]
    have hpe := t.parts_eq
    have hit : RisItem w0 t.items := fun k hk A' c' W' hW' hR' => ih t.items[k] A' c' w0 W' (by have := parts_item t.items k hk; omega) (namedL_at hn2 hk) hW' hR'
    have hlc : t.items.length ≤ 9223372036854775807 := by have := hR.1; have := hR.2.1; omega
    have hsl : t.name.length ≤ 9223372036854775807 := by omega
    generalize t.kind = k at *
    by_cases h1 : k = 1
    · subst h1; exact ris_k1 _ _ _ A _ c w0 W rfl hlc hsl hW hR hit
    by_cases h2 : k = 2
    · subst h2; exact ris_k2 _ _ _ A _ c w0 W rfl hlc hsl hW hR hit
    by_cases h3 : k = 3
    · subst h3; exact ris_k3 _ _ _ A _ c w0 W rfl hlc hsl hW hR hit
    by_cases h4 : k = 4
    · subst h4; exact ris_k4 _ _ _ A _ c w0 W rfl hlc hsl hW hR hit
    by_cases h5 : k = 5
    · subst h5; exact ris_k5 _ _ _ A _ c w0 W rfl hlc hsl hW hR hit
    by_cases h6 : k = 6
    · subst h6; exact ris_k6 _ _ _ A _ c w0 W rfl hlc hsl hW hR hit
    by_cases h7 : k = 7
    · subst h7; exact ris_k7 _ _ _ A _ c w0 W rfl hlc hsl hW hR hit
    by_cases h8 : k = 8
    · subst h8; exact ris_k8 _ _ _ A _ c w0 W rfl hlc hsl hW hR hit
    exact ris_other k _ _ _ A _ c W hlc h1 h2 h3 h4 h5 h6 h7 h8
end Go.Proofs.YtmpknhdfglbocaaGreat
