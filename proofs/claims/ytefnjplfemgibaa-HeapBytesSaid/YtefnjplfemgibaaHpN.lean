/- Heap (layer 9): what compares heaps (the document's same, Same); num. -/
import Derived.Test.YtefnjplfemgibaaHpL
namespace Go.Proofs.Ytefnjplfemgibaa
open Go.RowKit
set_option linter.unusedVariables false

theorem Blk.newAt {w : World} {t g : Nat} {cs : Array Value} (h : w.heap.size = g) : Blk (w.alloc (.cells cs t)) g t cs := by rw [← h]; exact Blk.new w t cs
section
variable {W W' : World}
theorem hnum_v (k : Int) (W : World) : Calls Try.prog 12 #[.int .i64 k] W fun e w' => e = .returned (.int .i64 k) ∧ W = w' := by
  go_enter Try.func12, Try.ntmps12
  go_wp2
  go_ret
  exact ⟨rfl, rfl⟩
set_option maxRecDepth 100000 in
set_option maxHeartbeats 1000000 in
theorem rsame_v (xs ys : List Nat) (A B : Option Addr) (n c m d : Nat) (W : World) (hx : RdC W A (xs.map nv)) (hy : RdC W B (ys.map nv)) (hn : xs.length = n) (hm : ys.length = m) (hn9 : n ≤ 1000000) (hm9 : m ≤ 1000000) :
    Calls Try.prog 38 #[.slice A n c, .slice B m d] W fun e w' => e = .returned (.bool (decide (xs = ys))) ∧ Below W.heap.size W w' := by
  have HN := Lib.hid hn
  have HM := Lib.hid hm
  have HX := Lib.hid hx
  have HY := Lib.hid hy
  by_cases hnm : n = m
  rotate_left
  · have HE := Lib.hid (show decide (xs = ys) = false from decide_eq_false (fun h => hnm (by rw [← hn, ← hm, h])))
    have d1 : ((n : Int) == (m : Int)) = false := by simpa using fun h => hnm (by omega)
    have d2 : ((n : Int) != (m : Int)) = true := by simpa using fun h => hnm (by omega)
    clear hn hm hx hy
    go_enter Try.func38, Try.ntmps38
    go_wp2
    go_ret
    exact ⟨by (rw [HE.out]; first | done | rfl), Below.refl _ _⟩
  · subst hnm
    clear hn hm hx hy
    go_enter Try.func38, Try.ntmps38
    go_wp2
    go_loopw [5] (fun i wr => ∃ j : Nat, j ≤ n ∧ i = .int .i64 j ∧ xs.take j = ys.take j ∧ Below W.heap.size W wr) (fun i _ => n - (intOf i).toNat)
    case atStart => exact ⟨0, Nat.zero_le _, rfl, rfl, Below.refl _ _⟩
    case round =>
      obtain ⟨j, hj, rfl, ht, hb⟩ := hrel
      by_cases hlt : j < n
      · have hd1 : decide (j < n) = true := by simp; omega
        obtain ⟨x, hxj⟩ : ∃ x, xs[j]? = some x := ⟨_, List.getElem?_eq_getElem (by rw [HN.out]; exact hlt)⟩
        obtain ⟨y, hyj⟩ : ∃ y, ys[j]? = some y := ⟨_, List.getElem?_eq_getElem (by rw [HM.out]; exact hlt)⟩
        obtain ⟨b1, o1, rfl, c1⟩ := (HX.out.below hb).at_ (j := j) (v := nv x) (by simp [hxj])
        obtain ⟨b2, o2, rfl, c2⟩ := (HY.out.below hb).at_ (j := j) (v := nv y) (by simp [hyj])
        unfold nv at c1 c2
        have hq1 : (0 : Int) ≤ (j : Int) := by omega
        have hq2 : (j : Int) < (n : Int) := by omega
        have HB := Lib.hid hb
        have HT := Lib.hid ht
        have HXJ := Lib.hid hxj
        have HYJ := Lib.hid hyj
        clear hb ht hxj hyj
        by_cases hxy : x = y
        · subst hxy
          go_upto_region 6 with (fail)
          go_quiet (fail)
          go_wp2
          go_roundw
          case rel => exact ⟨j + 1, by omega, by go_num, by rw [List.take_add_one, List.take_add_one, HT.out, HXJ.out, HYJ.out], ⟨HB.out.os, HB.out.tape, HB.out.output, HB.out.size, HB.out.block⟩⟩
          case measure => simp [intOf]; omega
        · have HE := Lib.hid (show decide (xs = ys) = false from decide_eq_false (fun h => hxy (by have h1 := HXJ.out; rw [h, HYJ.out] at h1; exact (Option.some.inj h1).symm)))
          have d1 : ((x : Int) == (y : Int)) = false := by simpa using fun h => hxy (by omega)
          have d2 : ((x : Int) != (y : Int)) = true := by simpa using fun h => hxy (by omega)
          go_upto_region 6 with (fail)
          go_quiet (fail)
          go_wp2
          go_ret
          exact ⟨by (rw [HE.out]; first | done | rfl), ⟨HB.out.os, HB.out.tape, HB.out.output, HB.out.size, HB.out.block⟩⟩
      · obtain rfl : n = j := by omega
        have hd1 : decide (n < n) = false := by simp
        have HE := Lib.hid (show decide (xs = ys) = true from decide_eq_true (by
          have h1 : xs.take n = xs := List.take_of_length_le (by rw [HN.out]; exact Nat.le_refl _)
          have h2 : ys.take n = ys := List.take_of_length_le (by rw [HM.out]; exact Nat.le_refl _)
          rw [h1, h2] at ht
          exact ht))
        go_wp2
        go_ret
        exact ⟨by (rw [HE.out]; first | done | rfl), hb⟩
/-- Are two heaps the same? -/
def sameH (ws rs : List Nat) (nm : List (List UInt8)) (ws' rs' : List Nat) (nm' : List (List UInt8)) : Bool := decide (ws = ws') && decide (rs = rs') && decide (nm = nm')
set_option maxRecDepth 100000 in
set_option maxHeartbeats 2000000 in
theorem rSame_v {Aw Aa Ar : Option Addr} {lw cw la ca lr cr : Nat} {ws rs : List Nat} {nm : List (List UInt8)} {Bw Ba Br : Option Addr} {mw dw ma da mr dr : Nat} {ws' rs' : List Nat} {nm' : List (List UInt8)} (W : World) (h : HRd W Aw lw cw Aa la ca Ar lr cr ws nm rs) (h' : HRd W Bw mw dw Ba ma da Br mr dr ws' nm' rs') (hb1 : lw ≤ 1000000 ∧ la ≤ 1000000 ∧ lr ≤ 1000000) (hb2 : mw ≤ 1000000 ∧ ma ≤ 1000000 ∧ mr ≤ 1000000) :
    Calls Try.prog 19 #[.agg #[.slice Aw lw cw, .slice Aa la ca, .slice Ar lr cr], .agg #[.slice Bw mw dw, .slice Ba ma da, .slice Br mr dr]] W fun e w' => e = .returned (.bool (sameH ws rs nm ws' rs' nm')) ∧ Below W.heap.size W w' := by
  have HH := Lib.hid h
  have HH' := Lib.hid h'
  have HS1 : Hid (∀ V, Below W.heap.size W V → Calls Try.prog 38 #[.slice Aw lw cw, .slice Bw mw dw] V fun e w' => e = .returned (.bool (decide (ws = ws'))) ∧ Below V.heap.size V w') := fun V hV => rsame_v ws ws' Aw Bw lw cw mw dw V (h.below hV).w (h'.below hV).w h.hlw h'.hlw hb1.1 hb2.1
  have HS2 : Hid (∀ V, Below W.heap.size W V → Calls Try.prog 38 #[.slice Ar lr cr, .slice Br mr dr] V fun e w' => e = .returned (.bool (decide (rs = rs'))) ∧ Below V.heap.size V w') := fun V hV => rsame_v rs rs' Ar Br lr cr mr dr V (h.below hV).r (h'.below hV).r h.hlr h'.hlr hb1.2.2 hb2.2.2
  obtain ⟨_, hla9, _⟩ := hb1
  obtain ⟨_, hma9, _⟩ := hb2
  obtain ⟨g, hg⟩ : ∃ g, W.heap.size = g := ⟨_, rfl⟩
  have HG := Lib.hid hg
  have PRE : Hid (∀ (q1 q2 q3 : Bool), decide (ws = ws') = q1 → decide (rs = rs') = q2 → decide (nm = nm') = q3 → sameH ws rs nm ws' rs' nm' = (q1 && q2 && q3)) := fun q1 q2 q3 e1 e2 e3 => by unfold sameH; rw [e1, e2, e3]
  clear h h'
  by_cases e1 : ws = ws'
  rotate_left
  · rw [decide_eq_false e1] at HS1
    have HE := Lib.hid (show sameH ws rs nm ws' rs' nm' = false from by unfold sameH; rw [decide_eq_false e1]; rfl)
    go_enter Try.func19, Try.ntmps19
    go_wp2_with (first
      | (go_at_call 38; (with_reducible refine (HS1.out _ (below_step (below_alloc _ _) (below_alloc _ _))).mono ?_); rintro e w1 ⟨rfl, hb1⟩))
    go_ret
    exact ⟨by (rw [HE.out]; first | done | rfl), below_step (below_step (below_alloc _ _) (below_alloc _ _)) hb1⟩
  rw [decide_eq_true e1] at HS1
  by_cases e2 : rs = rs'
  rotate_left
  · rw [decide_eq_false e2] at HS2
    have HE := Lib.hid (show sameH ws rs nm ws' rs' nm' = false from by unfold sameH; rw [decide_eq_false e2, Bool.and_false]; rfl)
    have HBX := Lib.hid (Blk.new W 29 #[.slice Aw lw cw, .slice Aa la ca, .slice Ar lr cr])
    go_enter Try.func19, Try.ntmps19
    go_upto_region 1 with (fail)
    refine wp_world (fun V => Below W.heap.size W V ∧ Blk V g 29 #[.slice Aw lw cw, .slice Aa la ca, .slice Ar lr cr] ∧ Blk V (g + 1) 29 #[.slice Bw mw dw, .slice Ba ma da, .slice Br mr dr]) ⟨below_step (below_alloc _ _) (below_alloc _ _), by rw [← HG.out]; exact (Blk.new _ _ _).alloc _, by rw [← HG.out]; exact Blk.newAt (by simp)⟩ ?_
    rintro V ⟨hb, hx, hy⟩
    have HBL := Lib.hid hb
    have HX := Lib.hid hx
    have HY := Lib.hid hy
    have x0 := hx.cell 0
    have x2 := hx.cell 2
    have y0 := hy.cell 0
    have y2 := hy.cell 2
    clear hb hx hy hg
    go_wp2_with (first
      | (go_at_call 38; (with_reducible refine (HS1.out _ HBL.out).mono ?_); rintro e w1 ⟨rfl, hb1⟩; have HBL1 := Lib.hid (below_step HBL.out hb1); have x2 := (HX.out.keep hb1).cell 2; have y2 := (HY.out.keep hb1).cell 2; clear hb1)
      | (go_at_call 38; (with_reducible refine (HS2.out _ HBL1.out).mono ?_); rintro e w2 ⟨rfl, hb2⟩))
    go_ret
    exact ⟨by (rw [HE.out]; first | done | rfl), below_step HBL1.out hb2⟩
  rw [decide_eq_true e2] at HS2
  go_enter Try.func19, Try.ntmps19
  go_upto_region 1 with (fail)
  refine wp_world (fun V => Below W.heap.size W V ∧ Blk V g 29 #[.slice Aw lw cw, .slice Aa la ca, .slice Ar lr cr] ∧ Blk V (g + 1) 29 #[.slice Bw mw dw, .slice Ba ma da, .slice Br mr dr]) ⟨below_step (below_alloc _ _) (below_alloc _ _), by rw [← HG.out]; exact (Blk.new _ _ _).alloc _, by rw [← HG.out]; exact Blk.newAt (by simp)⟩ ?_
  rintro V ⟨hb, hx, hy⟩
  have HBL := Lib.hid hb
  have HX := Lib.hid hx
  have HY := Lib.hid hy
  have x0 := hx.cell 0
  have x2 := hx.cell 2
  have y0 := hy.cell 0
  have y2 := hy.cell 2
  clear hb hx hy hg
  by_cases hnm : la = ma
  rotate_left
  · have HE := Lib.hid (show sameH ws rs nm ws' rs' nm' = false from by unfold sameH; rw [decide_eq_false (show ¬ nm = nm' from fun h => hnm (by rw [← HH.out.hla, ← HH'.out.hla, h])), Bool.and_false])
    have d1 : ((la : Int) == (ma : Int)) = false := by simpa using fun h => hnm (by omega)
    have d2 : ((la : Int) != (ma : Int)) = true := by simpa using fun h => hnm (by omega)
    go_wp2_with (first
      | (go_at_call 38; (with_reducible refine (HS1.out _ HBL.out).mono ?_); rintro e w1 ⟨rfl, hb1⟩; have HBL1 := Lib.hid (below_step HBL.out hb1); have HX1 := Lib.hid (HX.out.keep hb1); have HY1 := Lib.hid (HY.out.keep hb1); have x2 := HX1.out.cell 2; have y2 := HY1.out.cell 2; clear hb1)
      | (go_at_call 38; (with_reducible refine (HS2.out _ HBL1.out).mono ?_); rintro e w2 ⟨rfl, hb2⟩; have HBL2 := Lib.hid (below_step HBL1.out hb2); have x1 := (HX1.out.keep hb2).cell 1; have y1 := (HY1.out.keep hb2).cell 1; clear hb2))
    go_ret
    exact ⟨by (rw [HE.out]; first | done | rfl), HBL2.out⟩
  subst hnm
  go_upto_region 3 with (first
      | (go_at_call 38; (with_reducible refine (HS1.out _ HBL.out).mono ?_); rintro e w1 ⟨rfl, hb1⟩; have HBL1 := Lib.hid (below_step HBL.out hb1); have HX1 := Lib.hid (HX.out.keep hb1); have HY1 := Lib.hid (HY.out.keep hb1); have x2 := HX1.out.cell 2; have y2 := HY1.out.cell 2; clear hb1)
      | (go_at_call 38; (with_reducible refine (HS2.out _ HBL1.out).mono ?_); rintro e w2 ⟨rfl, hb2⟩; have HBL2 := Lib.hid (below_step HBL1.out hb2); have HX2 := Lib.hid (HX1.out.keep hb2); have HY2 := Lib.hid (HY1.out.keep hb2); have x1 := HX2.out.cell 1; have y1 := HY2.out.cell 1; clear hb2))
  refine wp_world (fun V => Below W.heap.size W V ∧ Blk V g 29 #[.slice Aw lw cw, .slice Aa la ca, .slice Ar lr cr] ∧ Blk V (g + 1) 29 #[.slice Bw mw dw, .slice Ba la da, .slice Br mr dr]) ⟨HBL2.out, HX2.out, HY2.out⟩ ?_
  clear HBL HX HY HBL1 HX1 HY1 HBL2 HX2 HY2 x0 x2 y0 y2 x1 y1
  rintro V3 ⟨hb, hx, hy⟩
  have HBL := Lib.hid hb
  have HX := Lib.hid hx
  have HY := Lib.hid hy
  clear hb hx hy
  go_wp2
  go_loopw [5] (fun i wr => ∃ j : Nat, j ≤ la ∧ i = .int .i64 j ∧ nm.take j = nm'.take j ∧ Below W.heap.size W wr ∧ Blk wr g 29 #[.slice Aw lw cw, .slice Aa la ca, .slice Ar lr cr] ∧ Blk wr (g + 1) 29 #[.slice Bw mw dw, .slice Ba la da, .slice Br mr dr]) (fun i _ => la - (intOf i).toNat)
  case atStart => exact ⟨0, Nat.zero_le _, rfl, rfl, HBL.out, HX.out, HY.out⟩
  case round =>
    obtain ⟨j, hj, rfl, ht, hb, hx, hy⟩ := hrel
    clear HBL HX HY
    have x1 := hx.cell 1
    have y1 := hy.cell 1
    by_cases hlt : j < la
    · have hd1 : decide (j < la) = true := by simp; omega
      obtain ⟨x, hxj⟩ : ∃ x, nm[j]? = some x := ⟨_, List.getElem?_eq_getElem (by rw [HH.out.hla]; exact hlt)⟩
      obtain ⟨y, hyj⟩ : ∃ y, nm'[j]? = some y := ⟨_, List.getElem?_eq_getElem (by rw [HH'.out.hla]; exact hlt)⟩
      obtain ⟨b1, o1, rfl, c1⟩ := (HH.out.a.below hb).at_ (j := j) (v := hv x) (by simp [hxj])
      obtain ⟨b2, o2, rfl, c2⟩ := (HH'.out.a.below hb).at_ (j := j) (v := hv y) (by simp [hyj])
      unfold hv at c1 c2
      have hq1 : (0 : Int) ≤ (j : Int) := by omega
      have hq2 : (j : Int) < (la : Int) := by omega
      have HB := Lib.hid hb
      have HX := Lib.hid hx
      have HY := Lib.hid hy
      have HT := Lib.hid ht
      have HXJ := Lib.hid hxj
      have HYJ := Lib.hid hyj
      clear hb ht hxj hyj hx hy
      by_cases hxy : x = y
      · subst hxy
        go_upto_region 6 with (fail)
        go_quiet (fail)
        go_wp2
        go_roundw
        case rel => exact ⟨j + 1, by omega, by go_num, by rw [List.take_add_one, List.take_add_one, HT.out, HXJ.out, HYJ.out], ⟨HB.out.os, HB.out.tape, HB.out.output, HB.out.size, HB.out.block⟩, HX.out, HY.out⟩
        case measure => simp [intOf]; omega
      · have HE := Lib.hid (show sameH ws rs nm ws' rs' nm' = false from by unfold sameH; rw [decide_eq_false (show ¬ nm = nm' from fun h => hxy (by have h1 := HXJ.out; rw [h, HYJ.out] at h1; exact (Option.some.inj h1).symm)), Bool.and_false])
        have d1 : (x == y) = false := by simpa using hxy
        have d2 : (x != y) = true := by simpa using hxy
        go_upto_region 6 with (fail)
        go_quiet (fail)
        go_wp2
        go_ret
        exact ⟨by (rw [HE.out]; first | done | rfl), ⟨HB.out.os, HB.out.tape, HB.out.output, HB.out.size, HB.out.block⟩⟩
    · obtain rfl : la = j := by omega
      have hd1 : decide (la < la) = false := by simp
      have HE := Lib.hid (show sameH ws rs nm ws' rs' nm' = true from by
        have h1 : nm.take la = nm := List.take_of_length_le (by rw [HH.out.hla]; exact Nat.le_refl _)
        have h2 : nm'.take la = nm' := List.take_of_length_le (by rw [HH'.out.hla]; exact Nat.le_refl _)
        rw [h1, h2] at ht
        unfold sameH
        rw [decide_eq_true e1, decide_eq_true e2, decide_eq_true ht]
        rfl)
      go_wp2
      go_ret
      exact ⟨by (rw [HE.out]; first | done | rfl), hb⟩
end
end Go.Proofs.Ytefnjplfemgibaa
