/- Arith (layer 14), the document's answer: truth, fits, number, product, logic, numbers. Written by argenra.py. -/
import Derived.Test.YtbpnlpjbjmojfaaGreatArR
namespace Go.Proofs.YtbpnlpjbjmojfaaGreat
open Go.RowKit
set_option linter.unusedVariables false
section
variable {W V V' : World} {u u1 u2 : Value} {t t1 t2 : TV}
theorem rint_v (X : Nat → Prop) (n : Int) (W : World) : Calls Tryz.prog 11 #[.int .i64 n] W (R1 X W (tI n)) := (tint_any n W).mono (by rintro e w ⟨rfl, hb⟩; exact ⟨_, rfl, tex_i _ _ _, hb⟩)
theorem rcmp_v {X Y : Nat → Prop} (h1 : TEx X W u1 t1) (h2 : TEx Y W u2 t2) : Calls Tryz.prog 27 #[u1, u2] W fun e w' => e = .returned (.int .i64 (t1.cmp t2)) ∧ Below W.heap.size W w' := by
  obtain ⟨A, n, c, rfl, rfl, hR⟩ := h1.val
  obtain ⟨A', n', c', rfl, rfl, hR'⟩ := h2.val
  exact cmp_any t1.parts t1 t2 A c A' c' W W (Nat.le_refl _) (Below.refl _ _) hR hR'
theorem rsize_v (h : TVal W u t) : Calls Tryz.prog 74 #[u] W fun e w' => e = .returned (.int .i64 (sizeP t.parts : Nat)) ∧ Below W.heap.size W w' := by
  obtain ⟨A, n, c, rfl, rfl, hR⟩ := h
  exact rsize_any t A c W W (Below.refl _ _) hR

set_option maxRecDepth 100000 in
set_option maxHeartbeats 1000000 in
theorem rtruth_v (X : Nat → Prop) (b : Bool) (W : World) : Calls Tryz.prog 77 #[.bool b] W (R1 X W (truT b)) := by
  cases b
  · have HC := Lib.hid (fun V => tatom_v sFalse V)
    have HK := Lib.hid (Blk.new W 26 #[.int .i64 0, .int .i64 0, .string ⟨#[]⟩, .slice none 0 0])
    go_enter Tryz.func77, Tryz.ntmps77
    go_wp2_with (go_at_call 13; refine (HC.out _).mono ?_; rintro e w1 ⟨rfl, hb⟩; have HK := Lib.hid (HK.out.keep hb); have z0 := HK.out.cell 0; have z1 := HK.out.cell 1; have z2 := HK.out.cell 2; have z3 := HK.out.cell 3; have zf0 := HK.out.frozen 0; have zf1 := HK.out.frozen 1; have zf2 := HK.out.frozen 2; have zf3 := HK.out.frozen 3)
    have hB2 := HK.out.set4 (.int .i64 2) (.int .i64 0) (.string ⟨sFalse.toArray⟩) (.slice none 0 0)
    have y0 := hB2.cell 0
    have y1 := hB2.cell 1
    have y2 := hB2.cell 2
    have y3 := hB2.cell 3
    refine bodyPost_ret (v := .agg #[.int .i64 2, .int .i64 0, .string ⟨sFalse.toArray⟩, .slice none 0 0]) (by simp [results, Tryz.results77, go_sem, y0, y1, y2, y3]) rfl ?_
    have hfr := fr_set4 w1 W.heap.size (.int .i64 2) (.int .i64 0) (.string ⟨sFalse.toArray⟩) (.slice none 0 0)
    have hbb := below_step (below_alloc W (.cells #[.int .i64 0, .int .i64 0, .string ⟨#[]⟩, .slice none 0 0] 26)) hb
    exact ⟨_, rfl, tex_a _ _ sFalse, hbb.trans (hfr.below hbb.size (fun k hk => by rw [hk]; exact Nat.le_refl _))⟩
  · have HC := Lib.hid (fun V => tatom_v sTrue V)
    have HK := Lib.hid (Blk.new W 26 #[.int .i64 0, .int .i64 0, .string ⟨#[]⟩, .slice none 0 0])
    go_enter Tryz.func77, Tryz.ntmps77
    go_wp2_with (go_at_call 13; refine (HC.out _).mono ?_; rintro e w1 ⟨rfl, hb⟩; have HK := Lib.hid (HK.out.keep hb); have z0 := HK.out.cell 0; have z1 := HK.out.cell 1; have z2 := HK.out.cell 2; have z3 := HK.out.cell 3; have zf0 := HK.out.frozen 0; have zf1 := HK.out.frozen 1; have zf2 := HK.out.frozen 2; have zf3 := HK.out.frozen 3)
    have hB2 := HK.out.set4 (.int .i64 2) (.int .i64 0) (.string ⟨sTrue.toArray⟩) (.slice none 0 0)
    have y0 := hB2.cell 0
    have y1 := hB2.cell 1
    have y2 := hB2.cell 2
    have y3 := hB2.cell 3
    refine bodyPost_ret (v := .agg #[.int .i64 2, .int .i64 0, .string ⟨sTrue.toArray⟩, .slice none 0 0]) (by simp [results, Tryz.results77, go_sem, y0, y1, y2, y3]) rfl ?_
    have hfr := fr_set4 w1 W.heap.size (.int .i64 2) (.int .i64 0) (.string ⟨sTrue.toArray⟩) (.slice none 0 0)
    have hbb := below_step (below_alloc W (.cells #[.int .i64 0, .int .i64 0, .string ⟨#[]⟩, .slice none 0 0] 26)) hb
    exact ⟨_, rfl, tex_a _ _ sTrue, hbb.trans (hfr.below hbb.size (fun k hk => by rw [hk]; exact Nat.le_refl _))⟩

set_option maxRecDepth 100000 in
set_option maxHeartbeats 1000000 in
theorem rfits_v {X : Nat → Prop} (hX : ∀ k, X k → k < W.heap.size) (h1 : TEx X W u1 t1) : Calls Tryz.prog 21 #[u1] W (R2 X W (fitP t1)) := by
  obtain ⟨A1, n1, c1, rfl, hn1⟩ := h1.form
  have H1 := Lib.hid h1
  have HN1 := Lib.hid hn1
  have HX := Lib.hid hX
  clear h1 hn1 hX
  by_cases hs : t1.parts ≤ 4096
  · rw [fitP_yes hs]
    have hd : sizeP t1.parts = t1.parts := by unfold sizeP; rw [if_pos hs]
    go_enter Tryz.func21, Tryz.ntmps21
    go_upto_region 1 with (fail)
    refine wp_world (fun V => Below W.heap.size W V ∧ Blk V (W.heap.size) 26 #[.int .i64 t1.kind, .int .i64 t1.int, .string ⟨t1.name.toArray⟩, .slice A1 n1 c1] ∧ Blk V (W.heap.size + 1) 26 #[.int .i64 0, .int .i64 0, .string ⟨#[]⟩, .slice none 0 0]) ⟨below_step (below_alloc _ _) (below_alloc _ _), ((Blk.newAt (by first | (with_reducible rfl) | simp)).alloc _), (Blk.newAt (by first | (with_reducible rfl) | simp))⟩ ?_
    rintro V ⟨hb, hq1, hz⟩
    have HB := Lib.hid hb
    have HKq1 := Lib.hid hq1
    have HKz := Lib.hid hz
    have q10 := HKq1.out.cell 0
    have q11 := HKq1.out.cell 1
    have q12 := HKq1.out.cell 2
    have q13 := HKq1.out.cell 3
    have q1f0 := HKq1.out.frozen 0
    have q1f1 := HKq1.out.frozen 1
    have q1f2 := HKq1.out.frozen 2
    have q1f3 := HKq1.out.frozen 3
    have z0 := HKz.out.cell 0
    have z1 := HKz.out.cell 1
    have z2 := HKz.out.cell 2
    have z3 := HKz.out.cell 3
    have zf0 := HKz.out.frozen 0
    have zf1 := HKz.out.frozen 1
    have zf2 := HKz.out.frozen 2
    have zf3 := HKz.out.frozen 3
    clear hb hq1 hz
    go_wp2_with (go_at_call 74; refine (rsize_v ((H1.out.up (p := W.heap.size + 1) HB.out (by omega)).val)).mono ?_; rintro e V ⟨rfl, hb1⟩; have HKq1 := Lib.hid (HKq1.out.keep hb1); have HKz := Lib.hid (HKz.out.keep hb1); have HB := Lib.hid (below_step HB.out hb1); have q10 := HKq1.out.cell 0; have q11 := HKq1.out.cell 1; have q12 := HKq1.out.cell 2; have q13 := HKq1.out.cell 3; have q1f0 := HKq1.out.frozen 0; have q1f1 := HKq1.out.frozen 1; have q1f2 := HKq1.out.frozen 2; have q1f3 := HKq1.out.frozen 3; have z0 := HKz.out.cell 0; have z1 := HKz.out.cell 1; have z2 := HKz.out.cell 2; have z3 := HKz.out.cell 3; have zf0 := HKz.out.frozen 0; have zf1 := HKz.out.frozen 1; have zf2 := HKz.out.frozen 2; have zf3 := HKz.out.frozen 3; clear hb1)
    have HT := Lib.hid (H1.out.up (p := W.heap.size + 1) HB.out (by omega))
    have hB2 := HKz.out.set4 (.int .i64 (t1).kind) (.int .i64 (t1).int) (.string ⟨(t1).name.toArray⟩) (.slice A1 n1 c1)
    have y0 := hB2.cell 0
    have y1 := hB2.cell 1
    have y2 := hB2.cell 2
    have y3 := hB2.cell 3
    refine bodyPost_ret (v := .tuple #[.agg #[.int .i64 (t1).kind, .int .i64 (t1).int, .string ⟨(t1).name.toArray⟩, .slice A1 n1 c1], .string ⟨(([] : List UInt8)).toArray⟩]) (by simp [results, Tryz.results21, go_sem, y0, y1, y2, y3]) rfl ?_
    obtain ⟨g1, g2⟩ := fin4 (X := X) HB.out (by omega) HT.out
    exact ⟨_, rfl, g1, g2⟩
  · rw [fitP_no hs]
    have hd : sizeP t1.parts = 4097 := by unfold sizeP; rw [if_neg hs]
    go_enter Tryz.func21, Tryz.ntmps21
    go_upto_region 1 with (fail)
    refine wp_world (fun V => Below W.heap.size W V ∧ Blk V (W.heap.size) 26 #[.int .i64 t1.kind, .int .i64 t1.int, .string ⟨t1.name.toArray⟩, .slice A1 n1 c1] ∧ Blk V (W.heap.size + 1) 26 #[.int .i64 0, .int .i64 0, .string ⟨#[]⟩, .slice none 0 0]) ⟨below_step (below_alloc _ _) (below_alloc _ _), ((Blk.newAt (by first | (with_reducible rfl) | simp)).alloc _), (Blk.newAt (by first | (with_reducible rfl) | simp))⟩ ?_
    rintro V ⟨hb, hq1, hz⟩
    have HB := Lib.hid hb
    have HKq1 := Lib.hid hq1
    have HKz := Lib.hid hz
    have q10 := HKq1.out.cell 0
    have q11 := HKq1.out.cell 1
    have q12 := HKq1.out.cell 2
    have q13 := HKq1.out.cell 3
    have q1f0 := HKq1.out.frozen 0
    have q1f1 := HKq1.out.frozen 1
    have q1f2 := HKq1.out.frozen 2
    have q1f3 := HKq1.out.frozen 3
    have z0 := HKz.out.cell 0
    have z1 := HKz.out.cell 1
    have z2 := HKz.out.cell 2
    have z3 := HKz.out.cell 3
    have zf0 := HKz.out.frozen 0
    have zf1 := HKz.out.frozen 1
    have zf2 := HKz.out.frozen 2
    have zf3 := HKz.out.frozen 3
    clear hb hq1 hz
    go_wp2_with (go_at_call 74; refine (rsize_v ((H1.out.up (p := W.heap.size + 1) HB.out (by omega)).val)).mono ?_; rintro e V ⟨rfl, hb1⟩; have HKq1 := Lib.hid (HKq1.out.keep hb1); have HKz := Lib.hid (HKz.out.keep hb1); have HB := Lib.hid (below_step HB.out hb1); have q10 := HKq1.out.cell 0; have q11 := HKq1.out.cell 1; have q12 := HKq1.out.cell 2; have q13 := HKq1.out.cell 3; have q1f0 := HKq1.out.frozen 0; have q1f1 := HKq1.out.frozen 1; have q1f2 := HKq1.out.frozen 2; have q1f3 := HKq1.out.frozen 3; have z0 := HKz.out.cell 0; have z1 := HKz.out.cell 1; have z2 := HKz.out.cell 2; have z3 := HKz.out.cell 3; have zf0 := HKz.out.frozen 0; have zf1 := HKz.out.frozen 1; have zf2 := HKz.out.frozen 2; have zf3 := HKz.out.frozen 3; clear hb1)
    have hB2 := HKz.out.set4 (.int .i64 0) (.int .i64 0) (.string ⟨#[]⟩) (.slice none 0 0)
    have y0 := hB2.cell 0
    have y1 := hB2.cell 1
    have y2 := hB2.cell 2
    have y3 := hB2.cell 3
    refine bodyPost_ret (v := .tuple #[.agg #[.int .i64 0, .int .i64 0, .string ⟨#[]⟩, .slice none 0 0], .string ⟨(sLim).toArray⟩]) (by simp [results, Tryz.results21, go_sem, y0, y1, y2, y3, sLim]) rfl ?_
    obtain ⟨g1, g2⟩ := fin4 (X := X) (p := W.heap.size + 1) HB.out (by omega) (tex_z _ _)
    exact ⟨_, rfl, g1, g2⟩
set_option maxRecDepth 100000 in
set_option maxHeartbeats 1000000 in
theorem rnumber_v {X : Nat → Prop} (hX : ∀ k, X k → k < W.heap.size) (n : Int) : Calls Tryz.prog 75 #[.int .i64 n] W (R2 X W (numP n)) := by
  have HX := Lib.hid hX
  clear hX
  unfold numP
  by_cases h1 : n < -576460752303423488 ∨ 576460752303423487 < n
  · rw [if_pos h1]
    by_cases h2 : n < -576460752303423488
    · clear h1
      have hd : decide (n < -576460752303423488) = true := by simp; omega
      go_enter Tryz.func75, Tryz.ntmps75
      go_upto_region 1 with (fail)
      refine wp_world (fun V => Below W.heap.size W V ∧ Blk V (W.heap.size) 26 #[.int .i64 0, .int .i64 0, .string ⟨#[]⟩, .slice none 0 0]) ⟨below_alloc _ _, (Blk.newAt (by first | (with_reducible rfl) | simp))⟩ ?_
      rintro V ⟨hb, hz⟩
      have HB := Lib.hid hb
      have HKz := Lib.hid hz
      have z0 := HKz.out.cell 0
      have z1 := HKz.out.cell 1
      have z2 := HKz.out.cell 2
      have z3 := HKz.out.cell 3
      have zf0 := HKz.out.frozen 0
      have zf1 := HKz.out.frozen 1
      have zf2 := HKz.out.frozen 2
      have zf3 := HKz.out.frozen 3
      clear hb hz
      go_wp2
      have hB2 := HKz.out.set4 (.int .i64 0) (.int .i64 0) (.string ⟨#[]⟩) (.slice none 0 0)
      have y0 := hB2.cell 0
      have y1 := hB2.cell 1
      have y2 := hB2.cell 2
      have y3 := hB2.cell 3
      refine bodyPost_ret (v := .tuple #[.agg #[.int .i64 0, .int .i64 0, .string ⟨#[]⟩, .slice none 0 0], .string ⟨(sLim).toArray⟩]) (by simp [results, Tryz.results75, go_sem, y0, y1, y2, y3, sLim]) rfl ?_
      obtain ⟨g1, g2⟩ := fin4 (X := X) (p := W.heap.size) HB.out (by omega) (tex_z _ _)
      exact ⟨_, rfl, g1, g2⟩
    · have h3 : 576460752303423487 < n := by omega
      clear h1
      have hd : decide (n < -576460752303423488) = false := by simp; omega
      have hd2 : decide (576460752303423487 < n) = true := by simp; omega
      go_enter Tryz.func75, Tryz.ntmps75
      go_upto_region 1 with (fail)
      refine wp_world (fun V => Below W.heap.size W V ∧ Blk V (W.heap.size) 26 #[.int .i64 0, .int .i64 0, .string ⟨#[]⟩, .slice none 0 0]) ⟨below_alloc _ _, (Blk.newAt (by first | (with_reducible rfl) | simp))⟩ ?_
      rintro V ⟨hb, hz⟩
      have HB := Lib.hid hb
      have HKz := Lib.hid hz
      have z0 := HKz.out.cell 0
      have z1 := HKz.out.cell 1
      have z2 := HKz.out.cell 2
      have z3 := HKz.out.cell 3
      have zf0 := HKz.out.frozen 0
      have zf1 := HKz.out.frozen 1
      have zf2 := HKz.out.frozen 2
      have zf3 := HKz.out.frozen 3
      clear hb hz
      go_wp2
      have hB2 := HKz.out.set4 (.int .i64 0) (.int .i64 0) (.string ⟨#[]⟩) (.slice none 0 0)
      have y0 := hB2.cell 0
      have y1 := hB2.cell 1
      have y2 := hB2.cell 2
      have y3 := hB2.cell 3
      refine bodyPost_ret (v := .tuple #[.agg #[.int .i64 0, .int .i64 0, .string ⟨#[]⟩, .slice none 0 0], .string ⟨(sLim).toArray⟩]) (by simp [results, Tryz.results75, go_sem, y0, y1, y2, y3, sLim]) rfl ?_
      obtain ⟨g1, g2⟩ := fin4 (X := X) (p := W.heap.size) HB.out (by omega) (tex_z _ _)
      exact ⟨_, rfl, g1, g2⟩
  · rw [if_neg h1]
    have h2 : ¬ n < -576460752303423488 := by omega
    have h3 : ¬ 576460752303423487 < n := by omega
    clear h1
    have hd : decide (n < -576460752303423488) = false := by simp; omega
    have hd2 : decide (576460752303423487 < n) = false := by simp; omega
    go_enter Tryz.func75, Tryz.ntmps75
    go_upto_region 1 with (fail)
    refine wp_world (fun V => Below W.heap.size W V ∧ Blk V (W.heap.size) 26 #[.int .i64 0, .int .i64 0, .string ⟨#[]⟩, .slice none 0 0]) ⟨below_alloc _ _, (Blk.newAt (by first | (with_reducible rfl) | simp))⟩ ?_
    rintro V ⟨hb, hz⟩
    have HB := Lib.hid hb
    have HKz := Lib.hid hz
    have z0 := HKz.out.cell 0
    have z1 := HKz.out.cell 1
    have z2 := HKz.out.cell 2
    have z3 := HKz.out.cell 3
    have zf0 := HKz.out.frozen 0
    have zf1 := HKz.out.frozen 1
    have zf2 := HKz.out.frozen 2
    have zf3 := HKz.out.frozen 3
    clear hb hz
    go_wp2_with (go_at_call 11; refine (rint_v (fun k => X k ∨ k = W.heap.size) n V).mono ?_; rintro e w1 ⟨v, rfl, hT, hb1⟩; obtain ⟨A9, n9, c9, rfl, hn⟩ := hT.form; have HT := Lib.hid hT; have HKz := Lib.hid (HKz.out.keep hb1); have HB := Lib.hid (below_step HB.out hb1); have z0 := HKz.out.cell 0; have z1 := HKz.out.cell 1; have z2 := HKz.out.cell 2; have z3 := HKz.out.cell 3; have zf0 := HKz.out.frozen 0; have zf1 := HKz.out.frozen 1; have zf2 := HKz.out.frozen 2; have zf3 := HKz.out.frozen 3; clear hn hT hb1)
    have hB2 := HKz.out.set4 (.int .i64 ((tI n)).kind) (.int .i64 ((tI n)).int) (.string ⟨((tI n)).name.toArray⟩) (.slice A9 n9 c9)
    have y0 := hB2.cell 0
    have y1 := hB2.cell 1
    have y2 := hB2.cell 2
    have y3 := hB2.cell 3
    refine bodyPost_ret (v := .tuple #[.agg #[.int .i64 ((tI n)).kind, .int .i64 ((tI n)).int, .string ⟨((tI n)).name.toArray⟩, .slice A9 n9 c9], .string ⟨(([] : List UInt8)).toArray⟩]) (by simp [results, Tryz.results75, go_sem, y0, y1, y2, y3]) rfl ?_
    obtain ⟨g1, g2⟩ := fin4 (X := X) HB.out (by omega) HT.out
    exact ⟨_, rfl, g1, g2⟩
set_option maxRecDepth 100000 in
set_option maxHeartbeats 1000000 in
theorem rlogic_v {X : Nat → Prop} (hX : ∀ k, X k → k < W.heap.size) (h1 : TEx X W u1 t1) : Calls Tryz.prog 76 #[u1] W fun e w' => e = .returned (.tuple #[.bool (lgP t1).1, .bool (lgP t1).2]) ∧ Below W.heap.size W w' := by
  obtain ⟨A1, n1, c1, rfl, hn1⟩ := h1.form
  have H1 := Lib.hid h1
  have HN1 := Lib.hid hn1
  have HX := Lib.hid hX
  clear h1 hn1 hX
  have hl : lgP t1 = if t1.kind = 2 then (t1.name == sTrue, t1.name == sTrue || t1.name == sFalse) else (false, false) := rfl
  by_cases hk : t1.kind = 2
  · rw [if_pos hk] at hl
    by_cases h1 : t1.name = sTrue
    · have hn1 : t1.name = [116, 114, 117, 101] := h1
      rw [h1, show (sTrue == sTrue, sTrue == sTrue || sTrue == sFalse) = (true, true) by decide] at hl
      have Hk := Lib.hid hk
      have Hn := Lib.hid hn1
      clear h1 hk hn1
      go_enter Tryz.func76, Tryz.ntmps76
      go_upto_region 1 with (fail)
      refine wp_world (fun V => Below W.heap.size W V ∧ Blk V (W.heap.size) 26 #[.int .i64 t1.kind, .int .i64 t1.int, .string ⟨t1.name.toArray⟩, .slice A1 n1 c1]) ⟨below_alloc _ _, (Blk.newAt (by first | (with_reducible rfl) | simp))⟩ ?_
      rintro V ⟨hb, hq1⟩
      have HB := Lib.hid hb
      have HKq1 := Lib.hid hq1
      have q10 := HKq1.out.cell 0
      have q11 := HKq1.out.cell 1
      have q12 := HKq1.out.cell 2
      have q13 := HKq1.out.cell 3
      have q1f0 := HKq1.out.frozen 0
      have q1f1 := HKq1.out.frozen 1
      have q1f2 := HKq1.out.frozen 2
      have q1f3 := HKq1.out.frozen 3
      clear hb hq1
      have hk := Hk.out
      have hn1 := Hn.out
      go_upto_region 3 with (fail)
      go_quiet (fail)
      go_wp2
      exact bodyPost_ret (v := .tuple #[.bool true, .bool true]) (by simp [results, Tryz.results76, go_sem]) rfl ⟨by first | (rw [hl]; done) | (rw [hl]; rfl), below_drewN HB.out _⟩
    · have hn1 : ¬ t1.name = [116, 114, 117, 101] := h1
      have Hk := Lib.hid hk
      have Hn := Lib.hid hn1
      clear h1 hk hn1
      go_enter Tryz.func76, Tryz.ntmps76
      go_upto_region 1 with (fail)
      refine wp_world (fun V => Below W.heap.size W V ∧ Blk V (W.heap.size) 26 #[.int .i64 t1.kind, .int .i64 t1.int, .string ⟨t1.name.toArray⟩, .slice A1 n1 c1]) ⟨below_alloc _ _, (Blk.newAt (by first | (with_reducible rfl) | simp))⟩ ?_
      rintro V ⟨hb, hq1⟩
      have HB := Lib.hid hb
      have HKq1 := Lib.hid hq1
      have q10 := HKq1.out.cell 0
      have q11 := HKq1.out.cell 1
      have q12 := HKq1.out.cell 2
      have q13 := HKq1.out.cell 3
      have q1f0 := HKq1.out.frozen 0
      have q1f1 := HKq1.out.frozen 1
      have q1f2 := HKq1.out.frozen 2
      have q1f3 := HKq1.out.frozen 3
      clear hb hq1
      have hk := Hk.out
      have hn1 := Hn.out
      go_upto_region 3 with (fail)
      go_quiet (fail)
      go_wp2
      exact bodyPost_ret (v := .tuple #[.bool (t1.name == [116, 114, 117, 101]), .bool (t1.name == [116, 114, 117, 101] || t1.name == [102, 97, 108, 115, 101])]) (by simp [results, Tryz.results76, go_sem]) rfl ⟨by first | (rw [hl]; done) | (rw [hl]; rfl), below_drewN HB.out _⟩
  · rw [if_neg hk] at hl
    have Hk := Lib.hid hk
    clear hk
    go_enter Tryz.func76, Tryz.ntmps76
    go_upto_region 1 with (fail)
    refine wp_world (fun V => Below W.heap.size W V ∧ Blk V (W.heap.size) 26 #[.int .i64 t1.kind, .int .i64 t1.int, .string ⟨t1.name.toArray⟩, .slice A1 n1 c1]) ⟨below_alloc _ _, (Blk.newAt (by first | (with_reducible rfl) | simp))⟩ ?_
    rintro V ⟨hb, hq1⟩
    have HB := Lib.hid hb
    have HKq1 := Lib.hid hq1
    have q10 := HKq1.out.cell 0
    have q11 := HKq1.out.cell 1
    have q12 := HKq1.out.cell 2
    have q13 := HKq1.out.cell 3
    have q1f0 := HKq1.out.frozen 0
    have q1f1 := HKq1.out.frozen 1
    have q1f2 := HKq1.out.frozen 2
    have q1f3 := HKq1.out.frozen 3
    clear hb hq1
    have hk := Hk.out
    go_wp2
    exact bodyPost_ret (v := .tuple #[.bool false, .bool false]) (by simp [results, Tryz.results76, go_sem]) rfl ⟨by first | (rw [hl]; done) | (rw [hl]; rfl), HB.out⟩

set_option maxRecDepth 100000 in
set_option maxHeartbeats 1000000 in
theorem rproduct_v {X : Nat → Prop} (hX : ∀ k, X k → k < W.heap.size) (a b : Int) (ha : -1152921504606846976 ≤ a ∧ a ≤ 1152921504606846976) (hb : -1152921504606846976 ≤ b ∧ b ≤ 1152921504606846976) : Calls Tryz.prog 99 #[.int .i64 a, .int .i64 b] W (R2 X W (numP (a * b))) := by
  have HX := Lib.hid hX
  clear hX
  by_cases h0 : a = 0
  · subst h0
    rw [Int.zero_mul, show numP 0 = (tI 0, []) from rfl]
    clear ha hb
    go_enter Tryz.func99, Tryz.ntmps99
    go_upto_region 1 with (fail)
    refine wp_world (fun V => Below W.heap.size W V ∧ Blk V (W.heap.size) 26 #[.int .i64 0, .int .i64 0, .string ⟨#[]⟩, .slice none 0 0]) ⟨below_alloc _ _, (Blk.newAt (by first | (with_reducible rfl) | simp))⟩ ?_
    rintro V ⟨hb, hz⟩
    have HB := Lib.hid hb
    have HKz := Lib.hid hz
    have z0 := HKz.out.cell 0
    have z1 := HKz.out.cell 1
    have z2 := HKz.out.cell 2
    have z3 := HKz.out.cell 3
    have zf0 := HKz.out.frozen 0
    have zf1 := HKz.out.frozen 1
    have zf2 := HKz.out.frozen 2
    have zf3 := HKz.out.frozen 3
    clear hb hz
    go_wp2_with (go_at_call 11; refine (rint_v (fun k => X k ∨ k = W.heap.size) 0 V).mono ?_; rintro e w1 ⟨v, rfl, hT, hb1⟩; obtain ⟨A9, n9, c9, rfl, hn⟩ := hT.form; have HT := Lib.hid hT; have HKz := Lib.hid (HKz.out.keep hb1); have HB := Lib.hid (below_step HB.out hb1); have z0 := HKz.out.cell 0; have z1 := HKz.out.cell 1; have z2 := HKz.out.cell 2; have z3 := HKz.out.cell 3; have zf0 := HKz.out.frozen 0; have zf1 := HKz.out.frozen 1; have zf2 := HKz.out.frozen 2; have zf3 := HKz.out.frozen 3; clear hn hT hb1)
    have hB2 := HKz.out.set4 (.int .i64 ((tI 0)).kind) (.int .i64 ((tI 0)).int) (.string ⟨((tI 0)).name.toArray⟩) (.slice A9 n9 c9)
    have y0 := hB2.cell 0
    have y1 := hB2.cell 1
    have y2 := hB2.cell 2
    have y3 := hB2.cell 3
    refine bodyPost_ret (v := .tuple #[.agg #[.int .i64 ((tI 0)).kind, .int .i64 ((tI 0)).int, .string ⟨((tI 0)).name.toArray⟩, .slice A9 n9 c9], .string ⟨(([] : List UInt8)).toArray⟩]) (by simp [results, Tryz.results99, go_sem, y0, y1, y2, y3]) rfl ?_
    obtain ⟨g1, g2⟩ := fin4 (X := X) HB.out (by omega) HT.out
    exact ⟨_, rfl, g1, g2⟩
  · by_cases h1 : b = 0
    · subst h1
      rw [Int.mul_zero, show numP 0 = (tI 0, []) from rfl]
      have d0 : (a == 0) = false := by simpa using h0
      have D0 := Lib.hid d0
      clear ha hb d0 h0
      go_enter Tryz.func99, Tryz.ntmps99
      go_upto_region 1 with (fail)
      refine wp_world (fun V => Below W.heap.size W V ∧ Blk V (W.heap.size) 26 #[.int .i64 0, .int .i64 0, .string ⟨#[]⟩, .slice none 0 0]) ⟨below_alloc _ _, (Blk.newAt (by first | (with_reducible rfl) | simp))⟩ ?_
      rintro V ⟨hb, hz⟩
      have HB := Lib.hid hb
      have HKz := Lib.hid hz
      have z0 := HKz.out.cell 0
      have z1 := HKz.out.cell 1
      have z2 := HKz.out.cell 2
      have z3 := HKz.out.cell 3
      have zf0 := HKz.out.frozen 0
      have zf1 := HKz.out.frozen 1
      have zf2 := HKz.out.frozen 2
      have zf3 := HKz.out.frozen 3
      clear hb hz
      have d0 := D0.out
      go_wp2_with (go_at_call 11; refine (rint_v (fun k => X k ∨ k = W.heap.size) 0 V).mono ?_; rintro e w1 ⟨v, rfl, hT, hb1⟩; obtain ⟨A9, n9, c9, rfl, hn⟩ := hT.form; have HT := Lib.hid hT; have HKz := Lib.hid (HKz.out.keep hb1); have HB := Lib.hid (below_step HB.out hb1); have z0 := HKz.out.cell 0; have z1 := HKz.out.cell 1; have z2 := HKz.out.cell 2; have z3 := HKz.out.cell 3; have zf0 := HKz.out.frozen 0; have zf1 := HKz.out.frozen 1; have zf2 := HKz.out.frozen 2; have zf3 := HKz.out.frozen 3; clear hn hT hb1)
      have hB2 := HKz.out.set4 (.int .i64 ((tI 0)).kind) (.int .i64 ((tI 0)).int) (.string ⟨((tI 0)).name.toArray⟩) (.slice A9 n9 c9)
      have y0 := hB2.cell 0
      have y1 := hB2.cell 1
      have y2 := hB2.cell 2
      have y3 := hB2.cell 3
      refine bodyPost_ret (v := .tuple #[.agg #[.int .i64 ((tI 0)).kind, .int .i64 ((tI 0)).int, .string ⟨((tI 0)).name.toArray⟩, .slice A9 n9 c9], .string ⟨(([] : List UInt8)).toArray⟩]) (by simp [results, Tryz.results99, go_sem, y0, y1, y2, y3]) rfl ?_
      obtain ⟨g1, g2⟩ := fin4 (X := X) HB.out (by omega) HT.out
      exact ⟨_, rfl, g1, g2⟩
    · obtain ⟨p, hp⟩ : ∃ p, p = a * b := ⟨_, rfl⟩
      rw [← hp]
      obtain ⟨n, hn⟩ : ∃ n, n = wrap64 p := ⟨_, rfl⟩
      have hnr : -9223372036854775808 ≤ n ∧ n ≤ 9223372036854775807 := by rw [hn]; unfold wrap64; omega
      obtain ⟨q, hq⟩ : ∃ q, q = n.tdiv b := ⟨_, rfl⟩
      obtain ⟨r, hr⟩ : ∃ r, r = n.tmod b := ⟨_, rfl⟩
      have hw1 : wrap64 (a * b) = n := by rw [hn, hp]
      have hsum : b * q + r = n := by rw [hq, hr]; exact Int.mul_tdiv_add_tmod n b
      have hqr : wrap64 q = q ∨ (b = -1 ∧ n = -9223372036854775808) := by
        have e1 : q.natAbs = n.natAbs / b.natAbs := by rw [hq]; exact Int.natAbs_tdiv n b
        have e2 := Nat.div_le_self n.natAbs b.natAbs
        by_cases hb1 : b.natAbs = 1
        · rw [hb1, Nat.div_one] at e1
          have hb2 : b = 1 ∨ b = -1 := by omega
          rcases hb2 with rfl | rfl
          · left; rw [Int.one_mul] at hsum; have : r = 0 := by rw [hr]; exact Int.tmod_one n
            unfold wrap64; omega
          · by_cases hm : n = -9223372036854775808
            · exact .inr ⟨rfl, hm⟩
            · left; unfold wrap64; omega
        · left
          have e3 : n.natAbs / b.natAbs ≤ n.natAbs / 2 := Nat.div_le_div_left (by omega) (by omega)
          unfold wrap64; omega
      have hwq : wrap64 (n.tdiv b) = q := by
        rw [← hq]
        rcases hqr with h | ⟨hb1, hm⟩
        · exact h
        · exfalso; subst hb1; rw [Int.mul_neg_one] at hp; have : n = p := by rw [hn]; unfold wrap64; omega
          omega
      by_cases hin : n = p
      · have hqa : q = a := by rw [hq, hin, hp]; exact Int.mul_tdiv_cancel a h1
        have hr0 : r = 0 := by rw [hr, hin, hp]; exact Int.mul_tmod_left a b
        have d0 : (a == 0) = false := by simpa using h0
        have d1 : (b == 0) = false := by simpa using h1
        have d2 : (q != a) = false := by simp [hqa]
        have d3 : (n.tmod b != 0) = false := by rw [← hr, hr0]; rfl
        subst hin
        clear ha hb hn hnr hqr hsum hq hr hqa hr0 h0 hp
        have D0 := Lib.hid d0
        have D1 := Lib.hid d1
        have D2 := Lib.hid d2
        have D3 := Lib.hid d3
        have W1 := Lib.hid hw1
        have W2 := Lib.hid hwq
        clear d0 d1 d2 d3 hw1 hwq
        go_enter Tryz.func99, Tryz.ntmps99
        go_upto_region 1 with (fail)
        refine wp_world (fun V => Below W.heap.size W V ∧ Blk V (W.heap.size) 26 #[.int .i64 0, .int .i64 0, .string ⟨#[]⟩, .slice none 0 0]) ⟨below_alloc _ _, (Blk.newAt (by first | (with_reducible rfl) | simp))⟩ ?_
        rintro V ⟨hb, hz⟩
        have HB := Lib.hid hb
        have HKz := Lib.hid hz
        have z0 := HKz.out.cell 0
        have z1 := HKz.out.cell 1
        have z2 := HKz.out.cell 2
        have z3 := HKz.out.cell 3
        have zf0 := HKz.out.frozen 0
        have zf1 := HKz.out.frozen 1
        have zf2 := HKz.out.frozen 2
        have zf3 := HKz.out.frozen 3
        clear hb hz
        have d0 := D0.out
        have d1 := D1.out
        have d2 := D2.out
        have d3 := D3.out
        have hw1 := W1.out
        have hwq := W2.out
        go_wp2_with (go_at_call 75; refine (rnumber_v (X := (fun k => X k ∨ k = W.heap.size)) (W := V) (by rintro k (hk | rfl); exact Nat.lt_of_lt_of_le (HX.out k hk) HB.out.size; exact HKz.out.lt) n).mono ?_; rintro e w1 ⟨v, rfl, hT, hb1⟩; obtain ⟨A9, n9, c9, rfl, hn⟩ := hT.form; have HT := Lib.hid hT; have HKz := Lib.hid (HKz.out.keep hb1); have HB := Lib.hid (below_step HB.out hb1); have z0 := HKz.out.cell 0; have z1 := HKz.out.cell 1; have z2 := HKz.out.cell 2; have z3 := HKz.out.cell 3; have zf0 := HKz.out.frozen 0; have zf1 := HKz.out.frozen 1; have zf2 := HKz.out.frozen 2; have zf3 := HKz.out.frozen 3; clear hn hT hb1)
        have hB2 := HKz.out.set4 (.int .i64 ((numP n).1).kind) (.int .i64 ((numP n).1).int) (.string ⟨((numP n).1).name.toArray⟩) (.slice A9 n9 c9)
        have y0 := hB2.cell 0
        have y1 := hB2.cell 1
        have y2 := hB2.cell 2
        have y3 := hB2.cell 3
        refine bodyPost_ret (v := .tuple #[.agg #[.int .i64 ((numP n).1).kind, .int .i64 ((numP n).1).int, .string ⟨((numP n).1).name.toArray⟩, .slice A9 n9 c9], .string ⟨((numP n).2).toArray⟩]) (by simp [results, Tryz.results99, go_sem, y0, y1, y2, y3]) rfl ?_
        obtain ⟨g1, g2⟩ := fin4 (X := X) HB.out (by omega) HT.out
        exact ⟨_, rfl, g1, g2⟩
      · have hlim : numP p = (tZ, sLim) := by
          unfold numP
          rw [if_pos]
          rw [hn] at hin
          unfold wrap64 at hin
          omega
        rw [hlim]
        by_cases hqa : q = a
        · have hr0 : ¬ r = 0 := fun h => hin (by rw [← hsum, hqa, h, hp, Int.add_zero, Int.mul_comm])
          have d0 : (a == 0) = false := by simpa using h0
          have d1 : (b == 0) = false := by simpa using h1
          have d2 : (q != a) = false := by simp [hqa]
          have d3 : (n.tmod b != 0) = true := by rw [← hr]; simpa using hr0
          clear ha hb hn hnr hqr hsum hq hr hqa hr0 h0 hp hlim hin
          have D0 := Lib.hid d0
          have D1 := Lib.hid d1
          have D2 := Lib.hid d2
          have D3 := Lib.hid d3
          have W1 := Lib.hid hw1
          have W2 := Lib.hid hwq
          clear d0 d1 d2 d3 hw1 hwq
          go_enter Tryz.func99, Tryz.ntmps99
          go_upto_region 1 with (fail)
          refine wp_world (fun V => Below W.heap.size W V ∧ Blk V (W.heap.size) 26 #[.int .i64 0, .int .i64 0, .string ⟨#[]⟩, .slice none 0 0]) ⟨below_alloc _ _, (Blk.newAt (by first | (with_reducible rfl) | simp))⟩ ?_
          rintro V ⟨hb, hz⟩
          have HB := Lib.hid hb
          have HKz := Lib.hid hz
          have z0 := HKz.out.cell 0
          have z1 := HKz.out.cell 1
          have z2 := HKz.out.cell 2
          have z3 := HKz.out.cell 3
          have zf0 := HKz.out.frozen 0
          have zf1 := HKz.out.frozen 1
          have zf2 := HKz.out.frozen 2
          have zf3 := HKz.out.frozen 3
          clear hb hz
          have d0 := D0.out
          have d1 := D1.out
          have d2 := D2.out
          have d3 := D3.out
          have hw1 := W1.out
          have hwq := W2.out
          go_wp2
          have hB2 := HKz.out.set4 (.int .i64 0) (.int .i64 0) (.string ⟨#[]⟩) (.slice none 0 0)
          have y0 := hB2.cell 0
          have y1 := hB2.cell 1
          have y2 := hB2.cell 2
          have y3 := hB2.cell 3
          refine bodyPost_ret (v := .tuple #[.agg #[.int .i64 0, .int .i64 0, .string ⟨#[]⟩, .slice none 0 0], .string ⟨(sLim).toArray⟩]) (by simp [results, Tryz.results99, go_sem, y0, y1, y2, y3, sLim]) rfl ?_
          obtain ⟨g1, g2⟩ := fin4 (X := X) (p := W.heap.size) HB.out (by omega) (tex_z _ _)
          exact ⟨_, rfl, g1, g2⟩
        · have d0 : (a == 0) = false := by simpa using h0
          have d1 : (b == 0) = false := by simpa using h1
          have d2 : (q != a) = true := by simpa using hqa
          clear ha hb hn hnr hqr hsum hq hr hqa h0 hp hlim hin
          have D0 := Lib.hid d0
          have D1 := Lib.hid d1
          have D2 := Lib.hid d2
          have W1 := Lib.hid hw1
          have W2 := Lib.hid hwq
          clear d0 d1 d2 hw1 hwq
          go_enter Tryz.func99, Tryz.ntmps99
          go_upto_region 1 with (fail)
          refine wp_world (fun V => Below W.heap.size W V ∧ Blk V (W.heap.size) 26 #[.int .i64 0, .int .i64 0, .string ⟨#[]⟩, .slice none 0 0]) ⟨below_alloc _ _, (Blk.newAt (by first | (with_reducible rfl) | simp))⟩ ?_
          rintro V ⟨hb, hz⟩
          have HB := Lib.hid hb
          have HKz := Lib.hid hz
          have z0 := HKz.out.cell 0
          have z1 := HKz.out.cell 1
          have z2 := HKz.out.cell 2
          have z3 := HKz.out.cell 3
          have zf0 := HKz.out.frozen 0
          have zf1 := HKz.out.frozen 1
          have zf2 := HKz.out.frozen 2
          have zf3 := HKz.out.frozen 3
          clear hb hz
          have d0 := D0.out
          have d1 := D1.out
          have d2 := D2.out
          have hw1 := W1.out
          have hwq := W2.out
          go_wp2
          have hB2 := HKz.out.set4 (.int .i64 0) (.int .i64 0) (.string ⟨#[]⟩) (.slice none 0 0)
          have y0 := hB2.cell 0
          have y1 := hB2.cell 1
          have y2 := hB2.cell 2
          have y3 := hB2.cell 3
          refine bodyPost_ret (v := .tuple #[.agg #[.int .i64 0, .int .i64 0, .string ⟨#[]⟩, .slice none 0 0], .string ⟨(sLim).toArray⟩]) (by simp [results, Tryz.results99, go_sem, y0, y1, y2, y3, sLim]) rfl ?_
          obtain ⟨g1, g2⟩ := fin4 (X := X) (p := W.heap.size) HB.out (by omega) (tex_z _ _)
          exact ⟨_, rfl, g1, g2⟩
set_option maxRecDepth 100000 in
set_option maxHeartbeats 1000000 in
theorem rnum_add {X : Nat → Prop} (hX : ∀ k, X k → k < W.heap.size) (h1 : TEx X W u1 t1) (h2 : TEx X W u2 t2) (hi1 : -1152921504606846976 ≤ t1.int ∧ t1.int ≤ 1152921504606846976) (hi2 : -1152921504606846976 ≤ t2.int ∧ t2.int ≤ 1152921504606846976) : Calls Tryz.prog 81 #[.string ⟨#[43]⟩, u1, u2] W (R2 X W (if t1.kind = 1 ∧ t2.kind = 1 then numP (t1.int + t2.int) else (tZ, sAri))) := by
  obtain ⟨A1, n1, c1, rfl, hn1⟩ := h1.form
  have H1 := Lib.hid h1
  have HN1 := Lib.hid hn1
  obtain ⟨A2, n2, c2, rfl, hn2⟩ := h2.form
  have H2 := Lib.hid h2
  have HN2 := Lib.hid hn2
  have HX := Lib.hid hX
  clear h1 hn1 h2 hn2 hX
  by_cases k1 : t1.kind = 1
  · by_cases k2 : t2.kind = 1
    · rw [if_pos ⟨k1, k2⟩]
      have hw : wrap64 (t1.int + t2.int) = t1.int + t2.int := by unfold wrap64; omega
      have HW := Lib.hid hw
      clear hw hi1 hi2
      have K1 := Lib.hid k1
      have K2 := Lib.hid k2
      clear k1 k2
      go_enter Tryz.func81, Tryz.ntmps81
      go_upto_region 1 with (fail)
      refine wp_world (fun V => Below W.heap.size W V ∧ Blk V (W.heap.size) 26 #[.int .i64 t1.kind, .int .i64 t1.int, .string ⟨t1.name.toArray⟩, .slice A1 n1 c1] ∧ Blk V (W.heap.size + 1) 26 #[.int .i64 t2.kind, .int .i64 t2.int, .string ⟨t2.name.toArray⟩, .slice A2 n2 c2] ∧ Blk V (W.heap.size + 1 + 1) 26 #[.int .i64 0, .int .i64 0, .string ⟨#[]⟩, .slice none 0 0]) ⟨below_step (below_step (below_alloc _ _) (below_alloc _ _)) (below_alloc _ _), (((Blk.newAt (by first | (with_reducible rfl) | simp)).alloc _).alloc _), ((Blk.newAt (by first | (with_reducible rfl) | simp)).alloc _), (Blk.newAt (by first | (with_reducible rfl) | simp))⟩ ?_
      rintro V ⟨hb, hq1, hq2, hz⟩
      have HB := Lib.hid hb
      have HKq1 := Lib.hid hq1
      have HKq2 := Lib.hid hq2
      have HKz := Lib.hid hz
      have q10 := HKq1.out.cell 0
      have q11 := HKq1.out.cell 1
      have q12 := HKq1.out.cell 2
      have q13 := HKq1.out.cell 3
      have q1f0 := HKq1.out.frozen 0
      have q1f1 := HKq1.out.frozen 1
      have q1f2 := HKq1.out.frozen 2
      have q1f3 := HKq1.out.frozen 3
      have q20 := HKq2.out.cell 0
      have q21 := HKq2.out.cell 1
      have q22 := HKq2.out.cell 2
      have q23 := HKq2.out.cell 3
      have q2f0 := HKq2.out.frozen 0
      have q2f1 := HKq2.out.frozen 1
      have q2f2 := HKq2.out.frozen 2
      have q2f3 := HKq2.out.frozen 3
      have z0 := HKz.out.cell 0
      have z1 := HKz.out.cell 1
      have z2 := HKz.out.cell 2
      have z3 := HKz.out.cell 3
      have zf0 := HKz.out.frozen 0
      have zf1 := HKz.out.frozen 1
      have zf2 := HKz.out.frozen 2
      have zf3 := HKz.out.frozen 3
      clear hb hq1 hq2 hz
      have k1 := K1.out
      have k2 := K2.out
      have hw := HW.out
      go_wp2_with (go_at_call 75; refine (rnumber_v (X := (fun k => X k ∨ k = W.heap.size + 1 + 1)) (W := V) (by rintro k (hk | rfl); exact Nat.lt_of_lt_of_le (HX.out k hk) HB.out.size; exact HKz.out.lt) _).mono ?_; rintro e w1 ⟨v, rfl, hT, hb1⟩; obtain ⟨A9, n9, c9, rfl, hn⟩ := hT.form; have HT := Lib.hid hT; have HKq1 := Lib.hid (HKq1.out.keep hb1); have HKq2 := Lib.hid (HKq2.out.keep hb1); have HKz := Lib.hid (HKz.out.keep hb1); have HB := Lib.hid (below_step HB.out hb1); have q10 := HKq1.out.cell 0; have q11 := HKq1.out.cell 1; have q12 := HKq1.out.cell 2; have q13 := HKq1.out.cell 3; have q1f0 := HKq1.out.frozen 0; have q1f1 := HKq1.out.frozen 1; have q1f2 := HKq1.out.frozen 2; have q1f3 := HKq1.out.frozen 3; have q20 := HKq2.out.cell 0; have q21 := HKq2.out.cell 1; have q22 := HKq2.out.cell 2; have q23 := HKq2.out.cell 3; have q2f0 := HKq2.out.frozen 0; have q2f1 := HKq2.out.frozen 1; have q2f2 := HKq2.out.frozen 2; have q2f3 := HKq2.out.frozen 3; have z0 := HKz.out.cell 0; have z1 := HKz.out.cell 1; have z2 := HKz.out.cell 2; have z3 := HKz.out.cell 3; have zf0 := HKz.out.frozen 0; have zf1 := HKz.out.frozen 1; have zf2 := HKz.out.frozen 2; have zf3 := HKz.out.frozen 3; clear hn hT hb1)
      have hB2 := HKz.out.set4 (.int .i64 ((numP (t1.int + t2.int)).1).kind) (.int .i64 ((numP (t1.int + t2.int)).1).int) (.string ⟨((numP (t1.int + t2.int)).1).name.toArray⟩) (.slice A9 n9 c9)
      have y0 := hB2.cell 0
      have y1 := hB2.cell 1
      have y2 := hB2.cell 2
      have y3 := hB2.cell 3
      refine bodyPost_ret (v := .tuple #[.agg #[.int .i64 ((numP (t1.int + t2.int)).1).kind, .int .i64 ((numP (t1.int + t2.int)).1).int, .string ⟨((numP (t1.int + t2.int)).1).name.toArray⟩, .slice A9 n9 c9], .string ⟨((numP (t1.int + t2.int)).2).toArray⟩]) (by simp [results, Tryz.results81, go_sem, y0, y1, y2, y3]) rfl ?_
      obtain ⟨g1, g2⟩ := fin4 (X := X) HB.out (by omega) HT.out
      exact ⟨_, rfl, g1, g2⟩
    · rw [if_neg (fun h => k2 h.2)]
      clear hi1 hi2
      have K1 := Lib.hid k1
      have K2 := Lib.hid k2
      clear k1 k2
      go_enter Tryz.func81, Tryz.ntmps81
      go_upto_region 1 with (fail)
      refine wp_world (fun V => Below W.heap.size W V ∧ Blk V (W.heap.size) 26 #[.int .i64 t1.kind, .int .i64 t1.int, .string ⟨t1.name.toArray⟩, .slice A1 n1 c1] ∧ Blk V (W.heap.size + 1) 26 #[.int .i64 t2.kind, .int .i64 t2.int, .string ⟨t2.name.toArray⟩, .slice A2 n2 c2] ∧ Blk V (W.heap.size + 1 + 1) 26 #[.int .i64 0, .int .i64 0, .string ⟨#[]⟩, .slice none 0 0]) ⟨below_step (below_step (below_alloc _ _) (below_alloc _ _)) (below_alloc _ _), (((Blk.newAt (by first | (with_reducible rfl) | simp)).alloc _).alloc _), ((Blk.newAt (by first | (with_reducible rfl) | simp)).alloc _), (Blk.newAt (by first | (with_reducible rfl) | simp))⟩ ?_
      rintro V ⟨hb, hq1, hq2, hz⟩
      have HB := Lib.hid hb
      have HKq1 := Lib.hid hq1
      have HKq2 := Lib.hid hq2
      have HKz := Lib.hid hz
      have q10 := HKq1.out.cell 0
      have q11 := HKq1.out.cell 1
      have q12 := HKq1.out.cell 2
      have q13 := HKq1.out.cell 3
      have q1f0 := HKq1.out.frozen 0
      have q1f1 := HKq1.out.frozen 1
      have q1f2 := HKq1.out.frozen 2
      have q1f3 := HKq1.out.frozen 3
      have q20 := HKq2.out.cell 0
      have q21 := HKq2.out.cell 1
      have q22 := HKq2.out.cell 2
      have q23 := HKq2.out.cell 3
      have q2f0 := HKq2.out.frozen 0
      have q2f1 := HKq2.out.frozen 1
      have q2f2 := HKq2.out.frozen 2
      have q2f3 := HKq2.out.frozen 3
      have z0 := HKz.out.cell 0
      have z1 := HKz.out.cell 1
      have z2 := HKz.out.cell 2
      have z3 := HKz.out.cell 3
      have zf0 := HKz.out.frozen 0
      have zf1 := HKz.out.frozen 1
      have zf2 := HKz.out.frozen 2
      have zf3 := HKz.out.frozen 3
      clear hb hq1 hq2 hz
      have k1 := K1.out
      have k2 := K2.out
      go_wp2
      have hB2 := HKz.out.set4 (.int .i64 0) (.int .i64 0) (.string ⟨#[]⟩) (.slice none 0 0)
      have y0 := hB2.cell 0
      have y1 := hB2.cell 1
      have y2 := hB2.cell 2
      have y3 := hB2.cell 3
      refine bodyPost_ret (v := .tuple #[.agg #[.int .i64 0, .int .i64 0, .string ⟨#[]⟩, .slice none 0 0], .string ⟨(sAri).toArray⟩]) (by simp [results, Tryz.results81, go_sem, y0, y1, y2, y3, sAri]) rfl ?_
      obtain ⟨g1, g2⟩ := fin4 (X := X) (p := W.heap.size + 1 + 1) HB.out (by omega) (tex_z _ _)
      exact ⟨_, rfl, g1, g2⟩
  · rw [if_neg (fun h => k1 h.1)]
    have K1 := Lib.hid k1
    clear hi1 hi2 k1
    go_enter Tryz.func81, Tryz.ntmps81
    go_upto_region 1 with (fail)
    refine wp_world (fun V => Below W.heap.size W V ∧ Blk V (W.heap.size) 26 #[.int .i64 t1.kind, .int .i64 t1.int, .string ⟨t1.name.toArray⟩, .slice A1 n1 c1] ∧ Blk V (W.heap.size + 1) 26 #[.int .i64 t2.kind, .int .i64 t2.int, .string ⟨t2.name.toArray⟩, .slice A2 n2 c2] ∧ Blk V (W.heap.size + 1 + 1) 26 #[.int .i64 0, .int .i64 0, .string ⟨#[]⟩, .slice none 0 0]) ⟨below_step (below_step (below_alloc _ _) (below_alloc _ _)) (below_alloc _ _), (((Blk.newAt (by first | (with_reducible rfl) | simp)).alloc _).alloc _), ((Blk.newAt (by first | (with_reducible rfl) | simp)).alloc _), (Blk.newAt (by first | (with_reducible rfl) | simp))⟩ ?_
    rintro V ⟨hb, hq1, hq2, hz⟩
    have HB := Lib.hid hb
    have HKq1 := Lib.hid hq1
    have HKq2 := Lib.hid hq2
    have HKz := Lib.hid hz
    have q10 := HKq1.out.cell 0
    have q11 := HKq1.out.cell 1
    have q12 := HKq1.out.cell 2
    have q13 := HKq1.out.cell 3
    have q1f0 := HKq1.out.frozen 0
    have q1f1 := HKq1.out.frozen 1
    have q1f2 := HKq1.out.frozen 2
    have q1f3 := HKq1.out.frozen 3
    have q20 := HKq2.out.cell 0
    have q21 := HKq2.out.cell 1
    have q22 := HKq2.out.cell 2
    have q23 := HKq2.out.cell 3
    have q2f0 := HKq2.out.frozen 0
    have q2f1 := HKq2.out.frozen 1
    have q2f2 := HKq2.out.frozen 2
    have q2f3 := HKq2.out.frozen 3
    have z0 := HKz.out.cell 0
    have z1 := HKz.out.cell 1
    have z2 := HKz.out.cell 2
    have z3 := HKz.out.cell 3
    have zf0 := HKz.out.frozen 0
    have zf1 := HKz.out.frozen 1
    have zf2 := HKz.out.frozen 2
    have zf3 := HKz.out.frozen 3
    clear hb hq1 hq2 hz
    have k1 := K1.out
    go_wp2
    have hB2 := HKz.out.set4 (.int .i64 0) (.int .i64 0) (.string ⟨#[]⟩) (.slice none 0 0)
    have y0 := hB2.cell 0
    have y1 := hB2.cell 1
    have y2 := hB2.cell 2
    have y3 := hB2.cell 3
    refine bodyPost_ret (v := .tuple #[.agg #[.int .i64 0, .int .i64 0, .string ⟨#[]⟩, .slice none 0 0], .string ⟨(sAri).toArray⟩]) (by simp [results, Tryz.results81, go_sem, y0, y1, y2, y3, sAri]) rfl ?_
    obtain ⟨g1, g2⟩ := fin4 (X := X) (p := W.heap.size + 1 + 1) HB.out (by omega) (tex_z _ _)
    exact ⟨_, rfl, g1, g2⟩
set_option maxRecDepth 100000 in
set_option maxHeartbeats 1000000 in
theorem rnum_sub {X : Nat → Prop} (hX : ∀ k, X k → k < W.heap.size) (h1 : TEx X W u1 t1) (h2 : TEx X W u2 t2) (hi1 : -1152921504606846976 ≤ t1.int ∧ t1.int ≤ 1152921504606846976) (hi2 : -1152921504606846976 ≤ t2.int ∧ t2.int ≤ 1152921504606846976) : Calls Tryz.prog 81 #[.string ⟨#[45]⟩, u1, u2] W (R2 X W (if t1.kind = 1 ∧ t2.kind = 1 then numP (t1.int - t2.int) else (tZ, sAri))) := by
  obtain ⟨A1, n1, c1, rfl, hn1⟩ := h1.form
  have H1 := Lib.hid h1
  have HN1 := Lib.hid hn1
  obtain ⟨A2, n2, c2, rfl, hn2⟩ := h2.form
  have H2 := Lib.hid h2
  have HN2 := Lib.hid hn2
  have HX := Lib.hid hX
  clear h1 hn1 h2 hn2 hX
  by_cases k1 : t1.kind = 1
  · by_cases k2 : t2.kind = 1
    · rw [if_pos ⟨k1, k2⟩]
      have hw : wrap64 (t1.int - t2.int) = t1.int - t2.int := by unfold wrap64; omega
      have HW := Lib.hid hw
      clear hw hi1 hi2
      have K1 := Lib.hid k1
      have K2 := Lib.hid k2
      clear k1 k2
      go_enter Tryz.func81, Tryz.ntmps81
      go_upto_region 1 with (fail)
      refine wp_world (fun V => Below W.heap.size W V ∧ Blk V (W.heap.size) 26 #[.int .i64 t1.kind, .int .i64 t1.int, .string ⟨t1.name.toArray⟩, .slice A1 n1 c1] ∧ Blk V (W.heap.size + 1) 26 #[.int .i64 t2.kind, .int .i64 t2.int, .string ⟨t2.name.toArray⟩, .slice A2 n2 c2] ∧ Blk V (W.heap.size + 1 + 1) 26 #[.int .i64 0, .int .i64 0, .string ⟨#[]⟩, .slice none 0 0]) ⟨below_step (below_step (below_alloc _ _) (below_alloc _ _)) (below_alloc _ _), (((Blk.newAt (by first | (with_reducible rfl) | simp)).alloc _).alloc _), ((Blk.newAt (by first | (with_reducible rfl) | simp)).alloc _), (Blk.newAt (by first | (with_reducible rfl) | simp))⟩ ?_
      rintro V ⟨hb, hq1, hq2, hz⟩
      have HB := Lib.hid hb
      have HKq1 := Lib.hid hq1
      have HKq2 := Lib.hid hq2
      have HKz := Lib.hid hz
      have q10 := HKq1.out.cell 0
      have q11 := HKq1.out.cell 1
      have q12 := HKq1.out.cell 2
      have q13 := HKq1.out.cell 3
      have q1f0 := HKq1.out.frozen 0
      have q1f1 := HKq1.out.frozen 1
      have q1f2 := HKq1.out.frozen 2
      have q1f3 := HKq1.out.frozen 3
      have q20 := HKq2.out.cell 0
      have q21 := HKq2.out.cell 1
      have q22 := HKq2.out.cell 2
      have q23 := HKq2.out.cell 3
      have q2f0 := HKq2.out.frozen 0
      have q2f1 := HKq2.out.frozen 1
      have q2f2 := HKq2.out.frozen 2
      have q2f3 := HKq2.out.frozen 3
      have z0 := HKz.out.cell 0
      have z1 := HKz.out.cell 1
      have z2 := HKz.out.cell 2
      have z3 := HKz.out.cell 3
      have zf0 := HKz.out.frozen 0
      have zf1 := HKz.out.frozen 1
      have zf2 := HKz.out.frozen 2
      have zf3 := HKz.out.frozen 3
      clear hb hq1 hq2 hz
      have k1 := K1.out
      have k2 := K2.out
      have hw := HW.out
      go_wp2_with (go_at_call 75; refine (rnumber_v (X := (fun k => X k ∨ k = W.heap.size + 1 + 1)) (W := V) (by rintro k (hk | rfl); exact Nat.lt_of_lt_of_le (HX.out k hk) HB.out.size; exact HKz.out.lt) _).mono ?_; rintro e w1 ⟨v, rfl, hT, hb1⟩; obtain ⟨A9, n9, c9, rfl, hn⟩ := hT.form; have HT := Lib.hid hT; have HKq1 := Lib.hid (HKq1.out.keep hb1); have HKq2 := Lib.hid (HKq2.out.keep hb1); have HKz := Lib.hid (HKz.out.keep hb1); have HB := Lib.hid (below_step HB.out hb1); have q10 := HKq1.out.cell 0; have q11 := HKq1.out.cell 1; have q12 := HKq1.out.cell 2; have q13 := HKq1.out.cell 3; have q1f0 := HKq1.out.frozen 0; have q1f1 := HKq1.out.frozen 1; have q1f2 := HKq1.out.frozen 2; have q1f3 := HKq1.out.frozen 3; have q20 := HKq2.out.cell 0; have q21 := HKq2.out.cell 1; have q22 := HKq2.out.cell 2; have q23 := HKq2.out.cell 3; have q2f0 := HKq2.out.frozen 0; have q2f1 := HKq2.out.frozen 1; have q2f2 := HKq2.out.frozen 2; have q2f3 := HKq2.out.frozen 3; have z0 := HKz.out.cell 0; have z1 := HKz.out.cell 1; have z2 := HKz.out.cell 2; have z3 := HKz.out.cell 3; have zf0 := HKz.out.frozen 0; have zf1 := HKz.out.frozen 1; have zf2 := HKz.out.frozen 2; have zf3 := HKz.out.frozen 3; clear hn hT hb1)
      have hB2 := HKz.out.set4 (.int .i64 ((numP (t1.int - t2.int)).1).kind) (.int .i64 ((numP (t1.int - t2.int)).1).int) (.string ⟨((numP (t1.int - t2.int)).1).name.toArray⟩) (.slice A9 n9 c9)
      have y0 := hB2.cell 0
      have y1 := hB2.cell 1
      have y2 := hB2.cell 2
      have y3 := hB2.cell 3
      refine bodyPost_ret (v := .tuple #[.agg #[.int .i64 ((numP (t1.int - t2.int)).1).kind, .int .i64 ((numP (t1.int - t2.int)).1).int, .string ⟨((numP (t1.int - t2.int)).1).name.toArray⟩, .slice A9 n9 c9], .string ⟨((numP (t1.int - t2.int)).2).toArray⟩]) (by simp [results, Tryz.results81, go_sem, y0, y1, y2, y3]) rfl ?_
      obtain ⟨g1, g2⟩ := fin4 (X := X) HB.out (by omega) HT.out
      exact ⟨_, rfl, g1, g2⟩
    · rw [if_neg (fun h => k2 h.2)]
      clear hi1 hi2
      have K1 := Lib.hid k1
      have K2 := Lib.hid k2
      clear k1 k2
      go_enter Tryz.func81, Tryz.ntmps81
      go_upto_region 1 with (fail)
      refine wp_world (fun V => Below W.heap.size W V ∧ Blk V (W.heap.size) 26 #[.int .i64 t1.kind, .int .i64 t1.int, .string ⟨t1.name.toArray⟩, .slice A1 n1 c1] ∧ Blk V (W.heap.size + 1) 26 #[.int .i64 t2.kind, .int .i64 t2.int, .string ⟨t2.name.toArray⟩, .slice A2 n2 c2] ∧ Blk V (W.heap.size + 1 + 1) 26 #[.int .i64 0, .int .i64 0, .string ⟨#[]⟩, .slice none 0 0]) ⟨below_step (below_step (below_alloc _ _) (below_alloc _ _)) (below_alloc _ _), (((Blk.newAt (by first | (with_reducible rfl) | simp)).alloc _).alloc _), ((Blk.newAt (by first | (with_reducible rfl) | simp)).alloc _), (Blk.newAt (by first | (with_reducible rfl) | simp))⟩ ?_
      rintro V ⟨hb, hq1, hq2, hz⟩
      have HB := Lib.hid hb
      have HKq1 := Lib.hid hq1
      have HKq2 := Lib.hid hq2
      have HKz := Lib.hid hz
      have q10 := HKq1.out.cell 0
      have q11 := HKq1.out.cell 1
      have q12 := HKq1.out.cell 2
      have q13 := HKq1.out.cell 3
      have q1f0 := HKq1.out.frozen 0
      have q1f1 := HKq1.out.frozen 1
      have q1f2 := HKq1.out.frozen 2
      have q1f3 := HKq1.out.frozen 3
      have q20 := HKq2.out.cell 0
      have q21 := HKq2.out.cell 1
      have q22 := HKq2.out.cell 2
      have q23 := HKq2.out.cell 3
      have q2f0 := HKq2.out.frozen 0
      have q2f1 := HKq2.out.frozen 1
      have q2f2 := HKq2.out.frozen 2
      have q2f3 := HKq2.out.frozen 3
      have z0 := HKz.out.cell 0
      have z1 := HKz.out.cell 1
      have z2 := HKz.out.cell 2
      have z3 := HKz.out.cell 3
      have zf0 := HKz.out.frozen 0
      have zf1 := HKz.out.frozen 1
      have zf2 := HKz.out.frozen 2
      have zf3 := HKz.out.frozen 3
      clear hb hq1 hq2 hz
      have k1 := K1.out
      have k2 := K2.out
      go_wp2
      have hB2 := HKz.out.set4 (.int .i64 0) (.int .i64 0) (.string ⟨#[]⟩) (.slice none 0 0)
      have y0 := hB2.cell 0
      have y1 := hB2.cell 1
      have y2 := hB2.cell 2
      have y3 := hB2.cell 3
      refine bodyPost_ret (v := .tuple #[.agg #[.int .i64 0, .int .i64 0, .string ⟨#[]⟩, .slice none 0 0], .string ⟨(sAri).toArray⟩]) (by simp [results, Tryz.results81, go_sem, y0, y1, y2, y3, sAri]) rfl ?_
      obtain ⟨g1, g2⟩ := fin4 (X := X) (p := W.heap.size + 1 + 1) HB.out (by omega) (tex_z _ _)
      exact ⟨_, rfl, g1, g2⟩
  · rw [if_neg (fun h => k1 h.1)]
    have K1 := Lib.hid k1
    clear hi1 hi2 k1
    go_enter Tryz.func81, Tryz.ntmps81
    go_upto_region 1 with (fail)
    refine wp_world (fun V => Below W.heap.size W V ∧ Blk V (W.heap.size) 26 #[.int .i64 t1.kind, .int .i64 t1.int, .string ⟨t1.name.toArray⟩, .slice A1 n1 c1] ∧ Blk V (W.heap.size + 1) 26 #[.int .i64 t2.kind, .int .i64 t2.int, .string ⟨t2.name.toArray⟩, .slice A2 n2 c2] ∧ Blk V (W.heap.size + 1 + 1) 26 #[.int .i64 0, .int .i64 0, .string ⟨#[]⟩, .slice none 0 0]) ⟨below_step (below_step (below_alloc _ _) (below_alloc _ _)) (below_alloc _ _), (((Blk.newAt (by first | (with_reducible rfl) | simp)).alloc _).alloc _), ((Blk.newAt (by first | (with_reducible rfl) | simp)).alloc _), (Blk.newAt (by first | (with_reducible rfl) | simp))⟩ ?_
    rintro V ⟨hb, hq1, hq2, hz⟩
    have HB := Lib.hid hb
    have HKq1 := Lib.hid hq1
    have HKq2 := Lib.hid hq2
    have HKz := Lib.hid hz
    have q10 := HKq1.out.cell 0
    have q11 := HKq1.out.cell 1
    have q12 := HKq1.out.cell 2
    have q13 := HKq1.out.cell 3
    have q1f0 := HKq1.out.frozen 0
    have q1f1 := HKq1.out.frozen 1
    have q1f2 := HKq1.out.frozen 2
    have q1f3 := HKq1.out.frozen 3
    have q20 := HKq2.out.cell 0
    have q21 := HKq2.out.cell 1
    have q22 := HKq2.out.cell 2
    have q23 := HKq2.out.cell 3
    have q2f0 := HKq2.out.frozen 0
    have q2f1 := HKq2.out.frozen 1
    have q2f2 := HKq2.out.frozen 2
    have q2f3 := HKq2.out.frozen 3
    have z0 := HKz.out.cell 0
    have z1 := HKz.out.cell 1
    have z2 := HKz.out.cell 2
    have z3 := HKz.out.cell 3
    have zf0 := HKz.out.frozen 0
    have zf1 := HKz.out.frozen 1
    have zf2 := HKz.out.frozen 2
    have zf3 := HKz.out.frozen 3
    clear hb hq1 hq2 hz
    have k1 := K1.out
    go_wp2
    have hB2 := HKz.out.set4 (.int .i64 0) (.int .i64 0) (.string ⟨#[]⟩) (.slice none 0 0)
    have y0 := hB2.cell 0
    have y1 := hB2.cell 1
    have y2 := hB2.cell 2
    have y3 := hB2.cell 3
    refine bodyPost_ret (v := .tuple #[.agg #[.int .i64 0, .int .i64 0, .string ⟨#[]⟩, .slice none 0 0], .string ⟨(sAri).toArray⟩]) (by simp [results, Tryz.results81, go_sem, y0, y1, y2, y3, sAri]) rfl ?_
    obtain ⟨g1, g2⟩ := fin4 (X := X) (p := W.heap.size + 1 + 1) HB.out (by omega) (tex_z _ _)
    exact ⟨_, rfl, g1, g2⟩
set_option maxRecDepth 100000 in
set_option maxHeartbeats 1000000 in
theorem rnum_mul {X : Nat → Prop} (hX : ∀ k, X k → k < W.heap.size) (h1 : TEx X W u1 t1) (h2 : TEx X W u2 t2) (hi1 : -1152921504606846976 ≤ t1.int ∧ t1.int ≤ 1152921504606846976) (hi2 : -1152921504606846976 ≤ t2.int ∧ t2.int ≤ 1152921504606846976) : Calls Tryz.prog 81 #[.string ⟨#[42]⟩, u1, u2] W (R2 X W (if t1.kind = 1 ∧ t2.kind = 1 then numP (t1.int * t2.int) else (tZ, sAri))) := by
  obtain ⟨A1, n1, c1, rfl, hn1⟩ := h1.form
  have H1 := Lib.hid h1
  have HN1 := Lib.hid hn1
  obtain ⟨A2, n2, c2, rfl, hn2⟩ := h2.form
  have H2 := Lib.hid h2
  have HN2 := Lib.hid hn2
  have HX := Lib.hid hX
  clear h1 hn1 h2 hn2 hX
  by_cases k1 : t1.kind = 1
  · by_cases k2 : t2.kind = 1
    · rw [if_pos ⟨k1, k2⟩]
      have HI1 := Lib.hid hi1
      have HI2 := Lib.hid hi2
      clear hi1 hi2
      have K1 := Lib.hid k1
      have K2 := Lib.hid k2
      clear k1 k2
      go_enter Tryz.func81, Tryz.ntmps81
      go_upto_region 1 with (fail)
      refine wp_world (fun V => Below W.heap.size W V ∧ Blk V (W.heap.size) 26 #[.int .i64 t1.kind, .int .i64 t1.int, .string ⟨t1.name.toArray⟩, .slice A1 n1 c1] ∧ Blk V (W.heap.size + 1) 26 #[.int .i64 t2.kind, .int .i64 t2.int, .string ⟨t2.name.toArray⟩, .slice A2 n2 c2] ∧ Blk V (W.heap.size + 1 + 1) 26 #[.int .i64 0, .int .i64 0, .string ⟨#[]⟩, .slice none 0 0]) ⟨below_step (below_step (below_alloc _ _) (below_alloc _ _)) (below_alloc _ _), (((Blk.newAt (by first | (with_reducible rfl) | simp)).alloc _).alloc _), ((Blk.newAt (by first | (with_reducible rfl) | simp)).alloc _), (Blk.newAt (by first | (with_reducible rfl) | simp))⟩ ?_
      rintro V ⟨hb, hq1, hq2, hz⟩
      have HB := Lib.hid hb
      have HKq1 := Lib.hid hq1
      have HKq2 := Lib.hid hq2
      have HKz := Lib.hid hz
      have q10 := HKq1.out.cell 0
      have q11 := HKq1.out.cell 1
      have q12 := HKq1.out.cell 2
      have q13 := HKq1.out.cell 3
      have q1f0 := HKq1.out.frozen 0
      have q1f1 := HKq1.out.frozen 1
      have q1f2 := HKq1.out.frozen 2
      have q1f3 := HKq1.out.frozen 3
      have q20 := HKq2.out.cell 0
      have q21 := HKq2.out.cell 1
      have q22 := HKq2.out.cell 2
      have q23 := HKq2.out.cell 3
      have q2f0 := HKq2.out.frozen 0
      have q2f1 := HKq2.out.frozen 1
      have q2f2 := HKq2.out.frozen 2
      have q2f3 := HKq2.out.frozen 3
      have z0 := HKz.out.cell 0
      have z1 := HKz.out.cell 1
      have z2 := HKz.out.cell 2
      have z3 := HKz.out.cell 3
      have zf0 := HKz.out.frozen 0
      have zf1 := HKz.out.frozen 1
      have zf2 := HKz.out.frozen 2
      have zf3 := HKz.out.frozen 3
      clear hb hq1 hq2 hz
      have k1 := K1.out
      have k2 := K2.out
      go_wp2_with (go_at_call 99; refine (rproduct_v (X := (fun k => X k ∨ k = W.heap.size + 1 + 1)) (W := V) (by rintro k (hk | rfl); exact Nat.lt_of_lt_of_le (HX.out k hk) HB.out.size; exact HKz.out.lt) _ _ HI1.out HI2.out).mono ?_; rintro e w1 ⟨v, rfl, hT, hb1⟩; obtain ⟨A9, n9, c9, rfl, hn⟩ := hT.form; have HT := Lib.hid hT; have HKq1 := Lib.hid (HKq1.out.keep hb1); have HKq2 := Lib.hid (HKq2.out.keep hb1); have HKz := Lib.hid (HKz.out.keep hb1); have HB := Lib.hid (below_step HB.out hb1); have q10 := HKq1.out.cell 0; have q11 := HKq1.out.cell 1; have q12 := HKq1.out.cell 2; have q13 := HKq1.out.cell 3; have q1f0 := HKq1.out.frozen 0; have q1f1 := HKq1.out.frozen 1; have q1f2 := HKq1.out.frozen 2; have q1f3 := HKq1.out.frozen 3; have q20 := HKq2.out.cell 0; have q21 := HKq2.out.cell 1; have q22 := HKq2.out.cell 2; have q23 := HKq2.out.cell 3; have q2f0 := HKq2.out.frozen 0; have q2f1 := HKq2.out.frozen 1; have q2f2 := HKq2.out.frozen 2; have q2f3 := HKq2.out.frozen 3; have z0 := HKz.out.cell 0; have z1 := HKz.out.cell 1; have z2 := HKz.out.cell 2; have z3 := HKz.out.cell 3; have zf0 := HKz.out.frozen 0; have zf1 := HKz.out.frozen 1; have zf2 := HKz.out.frozen 2; have zf3 := HKz.out.frozen 3; clear hn hT hb1)
      have hB2 := HKz.out.set4 (.int .i64 ((numP (t1.int * t2.int)).1).kind) (.int .i64 ((numP (t1.int * t2.int)).1).int) (.string ⟨((numP (t1.int * t2.int)).1).name.toArray⟩) (.slice A9 n9 c9)
      have y0 := hB2.cell 0
      have y1 := hB2.cell 1
      have y2 := hB2.cell 2
      have y3 := hB2.cell 3
      refine bodyPost_ret (v := .tuple #[.agg #[.int .i64 ((numP (t1.int * t2.int)).1).kind, .int .i64 ((numP (t1.int * t2.int)).1).int, .string ⟨((numP (t1.int * t2.int)).1).name.toArray⟩, .slice A9 n9 c9], .string ⟨((numP (t1.int * t2.int)).2).toArray⟩]) (by simp [results, Tryz.results81, go_sem, y0, y1, y2, y3]) rfl ?_
      obtain ⟨g1, g2⟩ := fin4 (X := X) HB.out (by omega) HT.out
      exact ⟨_, rfl, g1, g2⟩
    · rw [if_neg (fun h => k2 h.2)]
      clear hi1 hi2
      have K1 := Lib.hid k1
      have K2 := Lib.hid k2
      clear k1 k2
      go_enter Tryz.func81, Tryz.ntmps81
      go_upto_region 1 with (fail)
      refine wp_world (fun V => Below W.heap.size W V ∧ Blk V (W.heap.size) 26 #[.int .i64 t1.kind, .int .i64 t1.int, .string ⟨t1.name.toArray⟩, .slice A1 n1 c1] ∧ Blk V (W.heap.size + 1) 26 #[.int .i64 t2.kind, .int .i64 t2.int, .string ⟨t2.name.toArray⟩, .slice A2 n2 c2] ∧ Blk V (W.heap.size + 1 + 1) 26 #[.int .i64 0, .int .i64 0, .string ⟨#[]⟩, .slice none 0 0]) ⟨below_step (below_step (below_alloc _ _) (below_alloc _ _)) (below_alloc _ _), (((Blk.newAt (by first | (with_reducible rfl) | simp)).alloc _).alloc _), ((Blk.newAt (by first | (with_reducible rfl) | simp)).alloc _), (Blk.newAt (by first | (with_reducible rfl) | simp))⟩ ?_
      rintro V ⟨hb, hq1, hq2, hz⟩
      have HB := Lib.hid hb
      have HKq1 := Lib.hid hq1
      have HKq2 := Lib.hid hq2
      have HKz := Lib.hid hz
      have q10 := HKq1.out.cell 0
      have q11 := HKq1.out.cell 1
      have q12 := HKq1.out.cell 2
      have q13 := HKq1.out.cell 3
      have q1f0 := HKq1.out.frozen 0
      have q1f1 := HKq1.out.frozen 1
      have q1f2 := HKq1.out.frozen 2
      have q1f3 := HKq1.out.frozen 3
      have q20 := HKq2.out.cell 0
      have q21 := HKq2.out.cell 1
      have q22 := HKq2.out.cell 2
      have q23 := HKq2.out.cell 3
      have q2f0 := HKq2.out.frozen 0
      have q2f1 := HKq2.out.frozen 1
      have q2f2 := HKq2.out.frozen 2
      have q2f3 := HKq2.out.frozen 3
      have z0 := HKz.out.cell 0
      have z1 := HKz.out.cell 1
      have z2 := HKz.out.cell 2
      have z3 := HKz.out.cell 3
      have zf0 := HKz.out.frozen 0
      have zf1 := HKz.out.frozen 1
      have zf2 := HKz.out.frozen 2
      have zf3 := HKz.out.frozen 3
      clear hb hq1 hq2 hz
      have k1 := K1.out
      have k2 := K2.out
      go_wp2
      have hB2 := HKz.out.set4 (.int .i64 0) (.int .i64 0) (.string ⟨#[]⟩) (.slice none 0 0)
      have y0 := hB2.cell 0
      have y1 := hB2.cell 1
      have y2 := hB2.cell 2
      have y3 := hB2.cell 3
      refine bodyPost_ret (v := .tuple #[.agg #[.int .i64 0, .int .i64 0, .string ⟨#[]⟩, .slice none 0 0], .string ⟨(sAri).toArray⟩]) (by simp [results, Tryz.results81, go_sem, y0, y1, y2, y3, sAri]) rfl ?_
      obtain ⟨g1, g2⟩ := fin4 (X := X) (p := W.heap.size + 1 + 1) HB.out (by omega) (tex_z _ _)
      exact ⟨_, rfl, g1, g2⟩
  · rw [if_neg (fun h => k1 h.1)]
    have K1 := Lib.hid k1
    clear hi1 hi2 k1
    go_enter Tryz.func81, Tryz.ntmps81
    go_upto_region 1 with (fail)
    refine wp_world (fun V => Below W.heap.size W V ∧ Blk V (W.heap.size) 26 #[.int .i64 t1.kind, .int .i64 t1.int, .string ⟨t1.name.toArray⟩, .slice A1 n1 c1] ∧ Blk V (W.heap.size + 1) 26 #[.int .i64 t2.kind, .int .i64 t2.int, .string ⟨t2.name.toArray⟩, .slice A2 n2 c2] ∧ Blk V (W.heap.size + 1 + 1) 26 #[.int .i64 0, .int .i64 0, .string ⟨#[]⟩, .slice none 0 0]) ⟨below_step (below_step (below_alloc _ _) (below_alloc _ _)) (below_alloc _ _), (((Blk.newAt (by first | (with_reducible rfl) | simp)).alloc _).alloc _), ((Blk.newAt (by first | (with_reducible rfl) | simp)).alloc _), (Blk.newAt (by first | (with_reducible rfl) | simp))⟩ ?_
    rintro V ⟨hb, hq1, hq2, hz⟩
    have HB := Lib.hid hb
    have HKq1 := Lib.hid hq1
    have HKq2 := Lib.hid hq2
    have HKz := Lib.hid hz
    have q10 := HKq1.out.cell 0
    have q11 := HKq1.out.cell 1
    have q12 := HKq1.out.cell 2
    have q13 := HKq1.out.cell 3
    have q1f0 := HKq1.out.frozen 0
    have q1f1 := HKq1.out.frozen 1
    have q1f2 := HKq1.out.frozen 2
    have q1f3 := HKq1.out.frozen 3
    have q20 := HKq2.out.cell 0
    have q21 := HKq2.out.cell 1
    have q22 := HKq2.out.cell 2
    have q23 := HKq2.out.cell 3
    have q2f0 := HKq2.out.frozen 0
    have q2f1 := HKq2.out.frozen 1
    have q2f2 := HKq2.out.frozen 2
    have q2f3 := HKq2.out.frozen 3
    have z0 := HKz.out.cell 0
    have z1 := HKz.out.cell 1
    have z2 := HKz.out.cell 2
    have z3 := HKz.out.cell 3
    have zf0 := HKz.out.frozen 0
    have zf1 := HKz.out.frozen 1
    have zf2 := HKz.out.frozen 2
    have zf3 := HKz.out.frozen 3
    clear hb hq1 hq2 hz
    have k1 := K1.out
    go_wp2
    have hB2 := HKz.out.set4 (.int .i64 0) (.int .i64 0) (.string ⟨#[]⟩) (.slice none 0 0)
    have y0 := hB2.cell 0
    have y1 := hB2.cell 1
    have y2 := hB2.cell 2
    have y3 := hB2.cell 3
    refine bodyPost_ret (v := .tuple #[.agg #[.int .i64 0, .int .i64 0, .string ⟨#[]⟩, .slice none 0 0], .string ⟨(sAri).toArray⟩]) (by simp [results, Tryz.results81, go_sem, y0, y1, y2, y3, sAri]) rfl ?_
    obtain ⟨g1, g2⟩ := fin4 (X := X) (p := W.heap.size + 1 + 1) HB.out (by omega) (tex_z _ _)
    exact ⟨_, rfl, g1, g2⟩
set_option maxRecDepth 100000 in
set_option maxHeartbeats 1000000 in
theorem rnum_div {X : Nat → Prop} (hX : ∀ k, X k → k < W.heap.size) (h1 : TEx X W u1 t1) (h2 : TEx X W u2 t2) (hi1 : -1152921504606846976 ≤ t1.int ∧ t1.int ≤ 1152921504606846976) (hi2 : -1152921504606846976 ≤ t2.int ∧ t2.int ≤ 1152921504606846976) : Calls Tryz.prog 81 #[.string ⟨#[100, 105, 118]⟩, u1, u2] W (R2 X W (if t1.kind = 1 ∧ t2.kind = 1 then (if t2.int = 0 then (tZ, sAri) else numP (t1.int.tdiv t2.int)) else (tZ, sAri))) := by
  obtain ⟨A1, n1, c1, rfl, hn1⟩ := h1.form
  have H1 := Lib.hid h1
  have HN1 := Lib.hid hn1
  obtain ⟨A2, n2, c2, rfl, hn2⟩ := h2.form
  have H2 := Lib.hid h2
  have HN2 := Lib.hid hn2
  have HX := Lib.hid hX
  clear h1 hn1 h2 hn2 hX
  by_cases k1 : t1.kind = 1
  · by_cases k2 : t2.kind = 1
    · rw [if_pos ⟨k1, k2⟩]
      by_cases z2 : t2.int = 0
      · rw [if_pos z2]
        have Z2 := Lib.hid z2
        clear hi1 hi2 z2
        have K1 := Lib.hid k1
        have K2 := Lib.hid k2
        clear k1 k2
        go_enter Tryz.func81, Tryz.ntmps81
        go_upto_region 1 with (fail)
        refine wp_world (fun V => Below W.heap.size W V ∧ Blk V (W.heap.size) 26 #[.int .i64 t1.kind, .int .i64 t1.int, .string ⟨t1.name.toArray⟩, .slice A1 n1 c1] ∧ Blk V (W.heap.size + 1) 26 #[.int .i64 t2.kind, .int .i64 t2.int, .string ⟨t2.name.toArray⟩, .slice A2 n2 c2] ∧ Blk V (W.heap.size + 1 + 1) 26 #[.int .i64 0, .int .i64 0, .string ⟨#[]⟩, .slice none 0 0]) ⟨below_step (below_step (below_alloc _ _) (below_alloc _ _)) (below_alloc _ _), (((Blk.newAt (by first | (with_reducible rfl) | simp)).alloc _).alloc _), ((Blk.newAt (by first | (with_reducible rfl) | simp)).alloc _), (Blk.newAt (by first | (with_reducible rfl) | simp))⟩ ?_
        rintro V ⟨hb, hq1, hq2, hz⟩
        have HB := Lib.hid hb
        have HKq1 := Lib.hid hq1
        have HKq2 := Lib.hid hq2
        have HKz := Lib.hid hz
        have q10 := HKq1.out.cell 0
        have q11 := HKq1.out.cell 1
        have q12 := HKq1.out.cell 2
        have q13 := HKq1.out.cell 3
        have q1f0 := HKq1.out.frozen 0
        have q1f1 := HKq1.out.frozen 1
        have q1f2 := HKq1.out.frozen 2
        have q1f3 := HKq1.out.frozen 3
        have q20 := HKq2.out.cell 0
        have q21 := HKq2.out.cell 1
        have q22 := HKq2.out.cell 2
        have q23 := HKq2.out.cell 3
        have q2f0 := HKq2.out.frozen 0
        have q2f1 := HKq2.out.frozen 1
        have q2f2 := HKq2.out.frozen 2
        have q2f3 := HKq2.out.frozen 3
        have z0 := HKz.out.cell 0
        have z1 := HKz.out.cell 1
        have z2 := HKz.out.cell 2
        have z3 := HKz.out.cell 3
        have zf0 := HKz.out.frozen 0
        have zf1 := HKz.out.frozen 1
        have zf2 := HKz.out.frozen 2
        have zf3 := HKz.out.frozen 3
        clear hb hq1 hq2 hz
        have k1 := K1.out
        have k2 := K2.out
        have z2 := Z2.out
        go_wp2
        have hB2 := HKz.out.set4 (.int .i64 0) (.int .i64 0) (.string ⟨#[]⟩) (.slice none 0 0)
        have y0 := hB2.cell 0
        have y1 := hB2.cell 1
        have y2 := hB2.cell 2
        have y3 := hB2.cell 3
        refine bodyPost_ret (v := .tuple #[.agg #[.int .i64 0, .int .i64 0, .string ⟨#[]⟩, .slice none 0 0], .string ⟨(sAri).toArray⟩]) (by simp [results, Tryz.results81, go_sem, y0, y1, y2, y3, sAri]) rfl ?_
        obtain ⟨g1, g2⟩ := fin4 (X := X) (p := W.heap.size + 1 + 1) HB.out (by omega) (tex_z _ _)
        exact ⟨_, rfl, g1, g2⟩
      · rw [if_neg z2]
        have hw := wrap_quo z2 hi1
        have Z2 := Lib.hid z2
        clear hi1 hi2 z2
        have HW := Lib.hid hw
        clear hw
        have K1 := Lib.hid k1
        have K2 := Lib.hid k2
        clear k1 k2
        go_enter Tryz.func81, Tryz.ntmps81
        go_upto_region 1 with (fail)
        refine wp_world (fun V => Below W.heap.size W V ∧ Blk V (W.heap.size) 26 #[.int .i64 t1.kind, .int .i64 t1.int, .string ⟨t1.name.toArray⟩, .slice A1 n1 c1] ∧ Blk V (W.heap.size + 1) 26 #[.int .i64 t2.kind, .int .i64 t2.int, .string ⟨t2.name.toArray⟩, .slice A2 n2 c2] ∧ Blk V (W.heap.size + 1 + 1) 26 #[.int .i64 0, .int .i64 0, .string ⟨#[]⟩, .slice none 0 0]) ⟨below_step (below_step (below_alloc _ _) (below_alloc _ _)) (below_alloc _ _), (((Blk.newAt (by first | (with_reducible rfl) | simp)).alloc _).alloc _), ((Blk.newAt (by first | (with_reducible rfl) | simp)).alloc _), (Blk.newAt (by first | (with_reducible rfl) | simp))⟩ ?_
        rintro V ⟨hb, hq1, hq2, hz⟩
        have HB := Lib.hid hb
        have HKq1 := Lib.hid hq1
        have HKq2 := Lib.hid hq2
        have HKz := Lib.hid hz
        have q10 := HKq1.out.cell 0
        have q11 := HKq1.out.cell 1
        have q12 := HKq1.out.cell 2
        have q13 := HKq1.out.cell 3
        have q1f0 := HKq1.out.frozen 0
        have q1f1 := HKq1.out.frozen 1
        have q1f2 := HKq1.out.frozen 2
        have q1f3 := HKq1.out.frozen 3
        have q20 := HKq2.out.cell 0
        have q21 := HKq2.out.cell 1
        have q22 := HKq2.out.cell 2
        have q23 := HKq2.out.cell 3
        have q2f0 := HKq2.out.frozen 0
        have q2f1 := HKq2.out.frozen 1
        have q2f2 := HKq2.out.frozen 2
        have q2f3 := HKq2.out.frozen 3
        have z0 := HKz.out.cell 0
        have z1 := HKz.out.cell 1
        have z2 := HKz.out.cell 2
        have z3 := HKz.out.cell 3
        have zf0 := HKz.out.frozen 0
        have zf1 := HKz.out.frozen 1
        have zf2 := HKz.out.frozen 2
        have zf3 := HKz.out.frozen 3
        clear hb hq1 hq2 hz
        have k1 := K1.out
        have k2 := K2.out
        have z2 := Z2.out
        have hw := HW.out
        go_wp2_with (go_at_call 75; refine (rnumber_v (X := (fun k => X k ∨ k = W.heap.size + 1 + 1)) (W := V) (by rintro k (hk | rfl); exact Nat.lt_of_lt_of_le (HX.out k hk) HB.out.size; exact HKz.out.lt) _).mono ?_; rintro e w1 ⟨v, rfl, hT, hb1⟩; obtain ⟨A9, n9, c9, rfl, hn⟩ := hT.form; have HT := Lib.hid hT; have HKq1 := Lib.hid (HKq1.out.keep hb1); have HKq2 := Lib.hid (HKq2.out.keep hb1); have HKz := Lib.hid (HKz.out.keep hb1); have HB := Lib.hid (below_step HB.out hb1); have q10 := HKq1.out.cell 0; have q11 := HKq1.out.cell 1; have q12 := HKq1.out.cell 2; have q13 := HKq1.out.cell 3; have q1f0 := HKq1.out.frozen 0; have q1f1 := HKq1.out.frozen 1; have q1f2 := HKq1.out.frozen 2; have q1f3 := HKq1.out.frozen 3; have q20 := HKq2.out.cell 0; have q21 := HKq2.out.cell 1; have q22 := HKq2.out.cell 2; have q23 := HKq2.out.cell 3; have q2f0 := HKq2.out.frozen 0; have q2f1 := HKq2.out.frozen 1; have q2f2 := HKq2.out.frozen 2; have q2f3 := HKq2.out.frozen 3; have z0 := HKz.out.cell 0; have z1 := HKz.out.cell 1; have z2 := HKz.out.cell 2; have z3 := HKz.out.cell 3; have zf0 := HKz.out.frozen 0; have zf1 := HKz.out.frozen 1; have zf2 := HKz.out.frozen 2; have zf3 := HKz.out.frozen 3; clear hn hT hb1)
        have hB2 := HKz.out.set4 (.int .i64 ((numP (t1.int.tdiv t2.int)).1).kind) (.int .i64 ((numP (t1.int.tdiv t2.int)).1).int) (.string ⟨((numP (t1.int.tdiv t2.int)).1).name.toArray⟩) (.slice A9 n9 c9)
        have y0 := hB2.cell 0
        have y1 := hB2.cell 1
        have y2 := hB2.cell 2
        have y3 := hB2.cell 3
        refine bodyPost_ret (v := .tuple #[.agg #[.int .i64 ((numP (t1.int.tdiv t2.int)).1).kind, .int .i64 ((numP (t1.int.tdiv t2.int)).1).int, .string ⟨((numP (t1.int.tdiv t2.int)).1).name.toArray⟩, .slice A9 n9 c9], .string ⟨((numP (t1.int.tdiv t2.int)).2).toArray⟩]) (by simp [results, Tryz.results81, go_sem, y0, y1, y2, y3]) rfl ?_
        obtain ⟨g1, g2⟩ := fin4 (X := X) HB.out (by omega) HT.out
        exact ⟨_, rfl, g1, g2⟩
    · rw [if_neg (fun h => k2 h.2)]
      clear hi1 hi2
      have K1 := Lib.hid k1
      have K2 := Lib.hid k2
      clear k1 k2
      go_enter Tryz.func81, Tryz.ntmps81
      go_upto_region 1 with (fail)
      refine wp_world (fun V => Below W.heap.size W V ∧ Blk V (W.heap.size) 26 #[.int .i64 t1.kind, .int .i64 t1.int, .string ⟨t1.name.toArray⟩, .slice A1 n1 c1] ∧ Blk V (W.heap.size + 1) 26 #[.int .i64 t2.kind, .int .i64 t2.int, .string ⟨t2.name.toArray⟩, .slice A2 n2 c2] ∧ Blk V (W.heap.size + 1 + 1) 26 #[.int .i64 0, .int .i64 0, .string ⟨#[]⟩, .slice none 0 0]) ⟨below_step (below_step (below_alloc _ _) (below_alloc _ _)) (below_alloc _ _), (((Blk.newAt (by first | (with_reducible rfl) | simp)).alloc _).alloc _), ((Blk.newAt (by first | (with_reducible rfl) | simp)).alloc _), (Blk.newAt (by first | (with_reducible rfl) | simp))⟩ ?_
      rintro V ⟨hb, hq1, hq2, hz⟩
      have HB := Lib.hid hb
      have HKq1 := Lib.hid hq1
      have HKq2 := Lib.hid hq2
      have HKz := Lib.hid hz
      have q10 := HKq1.out.cell 0
      have q11 := HKq1.out.cell 1
      have q12 := HKq1.out.cell 2
      have q13 := HKq1.out.cell 3
      have q1f0 := HKq1.out.frozen 0
      have q1f1 := HKq1.out.frozen 1
      have q1f2 := HKq1.out.frozen 2
      have q1f3 := HKq1.out.frozen 3
      have q20 := HKq2.out.cell 0
      have q21 := HKq2.out.cell 1
      have q22 := HKq2.out.cell 2
      have q23 := HKq2.out.cell 3
      have q2f0 := HKq2.out.frozen 0
      have q2f1 := HKq2.out.frozen 1
      have q2f2 := HKq2.out.frozen 2
      have q2f3 := HKq2.out.frozen 3
      have z0 := HKz.out.cell 0
      have z1 := HKz.out.cell 1
      have z2 := HKz.out.cell 2
      have z3 := HKz.out.cell 3
      have zf0 := HKz.out.frozen 0
      have zf1 := HKz.out.frozen 1
      have zf2 := HKz.out.frozen 2
      have zf3 := HKz.out.frozen 3
      clear hb hq1 hq2 hz
      have k1 := K1.out
      have k2 := K2.out
      go_wp2
      have hB2 := HKz.out.set4 (.int .i64 0) (.int .i64 0) (.string ⟨#[]⟩) (.slice none 0 0)
      have y0 := hB2.cell 0
      have y1 := hB2.cell 1
      have y2 := hB2.cell 2
      have y3 := hB2.cell 3
      refine bodyPost_ret (v := .tuple #[.agg #[.int .i64 0, .int .i64 0, .string ⟨#[]⟩, .slice none 0 0], .string ⟨(sAri).toArray⟩]) (by simp [results, Tryz.results81, go_sem, y0, y1, y2, y3, sAri]) rfl ?_
      obtain ⟨g1, g2⟩ := fin4 (X := X) (p := W.heap.size + 1 + 1) HB.out (by omega) (tex_z _ _)
      exact ⟨_, rfl, g1, g2⟩
  · rw [if_neg (fun h => k1 h.1)]
    have K1 := Lib.hid k1
    clear hi1 hi2 k1
    go_enter Tryz.func81, Tryz.ntmps81
    go_upto_region 1 with (fail)
    refine wp_world (fun V => Below W.heap.size W V ∧ Blk V (W.heap.size) 26 #[.int .i64 t1.kind, .int .i64 t1.int, .string ⟨t1.name.toArray⟩, .slice A1 n1 c1] ∧ Blk V (W.heap.size + 1) 26 #[.int .i64 t2.kind, .int .i64 t2.int, .string ⟨t2.name.toArray⟩, .slice A2 n2 c2] ∧ Blk V (W.heap.size + 1 + 1) 26 #[.int .i64 0, .int .i64 0, .string ⟨#[]⟩, .slice none 0 0]) ⟨below_step (below_step (below_alloc _ _) (below_alloc _ _)) (below_alloc _ _), (((Blk.newAt (by first | (with_reducible rfl) | simp)).alloc _).alloc _), ((Blk.newAt (by first | (with_reducible rfl) | simp)).alloc _), (Blk.newAt (by first | (with_reducible rfl) | simp))⟩ ?_
    rintro V ⟨hb, hq1, hq2, hz⟩
    have HB := Lib.hid hb
    have HKq1 := Lib.hid hq1
    have HKq2 := Lib.hid hq2
    have HKz := Lib.hid hz
    have q10 := HKq1.out.cell 0
    have q11 := HKq1.out.cell 1
    have q12 := HKq1.out.cell 2
    have q13 := HKq1.out.cell 3
    have q1f0 := HKq1.out.frozen 0
    have q1f1 := HKq1.out.frozen 1
    have q1f2 := HKq1.out.frozen 2
    have q1f3 := HKq1.out.frozen 3
    have q20 := HKq2.out.cell 0
    have q21 := HKq2.out.cell 1
    have q22 := HKq2.out.cell 2
    have q23 := HKq2.out.cell 3
    have q2f0 := HKq2.out.frozen 0
    have q2f1 := HKq2.out.frozen 1
    have q2f2 := HKq2.out.frozen 2
    have q2f3 := HKq2.out.frozen 3
    have z0 := HKz.out.cell 0
    have z1 := HKz.out.cell 1
    have z2 := HKz.out.cell 2
    have z3 := HKz.out.cell 3
    have zf0 := HKz.out.frozen 0
    have zf1 := HKz.out.frozen 1
    have zf2 := HKz.out.frozen 2
    have zf3 := HKz.out.frozen 3
    clear hb hq1 hq2 hz
    have k1 := K1.out
    go_wp2
    have hB2 := HKz.out.set4 (.int .i64 0) (.int .i64 0) (.string ⟨#[]⟩) (.slice none 0 0)
    have y0 := hB2.cell 0
    have y1 := hB2.cell 1
    have y2 := hB2.cell 2
    have y3 := hB2.cell 3
    refine bodyPost_ret (v := .tuple #[.agg #[.int .i64 0, .int .i64 0, .string ⟨#[]⟩, .slice none 0 0], .string ⟨(sAri).toArray⟩]) (by simp [results, Tryz.results81, go_sem, y0, y1, y2, y3, sAri]) rfl ?_
    obtain ⟨g1, g2⟩ := fin4 (X := X) (p := W.heap.size + 1 + 1) HB.out (by omega) (tex_z _ _)
    exact ⟨_, rfl, g1, g2⟩
set_option maxRecDepth 100000 in
set_option maxHeartbeats 1000000 in
theorem rnum_rem {X : Nat → Prop} (hX : ∀ k, X k → k < W.heap.size) (h1 : TEx X W u1 t1) (h2 : TEx X W u2 t2) (hi1 : -1152921504606846976 ≤ t1.int ∧ t1.int ≤ 1152921504606846976) (hi2 : -1152921504606846976 ≤ t2.int ∧ t2.int ≤ 1152921504606846976) : Calls Tryz.prog 81 #[.string ⟨#[114, 101, 109]⟩, u1, u2] W (R2 X W (if t1.kind = 1 ∧ t2.kind = 1 then (if t2.int = 0 then (tZ, sAri) else numP (t1.int.tmod t2.int)) else (tZ, sAri))) := by
  obtain ⟨A1, n1, c1, rfl, hn1⟩ := h1.form
  have H1 := Lib.hid h1
  have HN1 := Lib.hid hn1
  obtain ⟨A2, n2, c2, rfl, hn2⟩ := h2.form
  have H2 := Lib.hid h2
  have HN2 := Lib.hid hn2
  have HX := Lib.hid hX
  clear h1 hn1 h2 hn2 hX
  by_cases k1 : t1.kind = 1
  · by_cases k2 : t2.kind = 1
    · rw [if_pos ⟨k1, k2⟩]
      by_cases z2 : t2.int = 0
      · rw [if_pos z2]
        have Z2 := Lib.hid z2
        clear hi1 hi2 z2
        have K1 := Lib.hid k1
        have K2 := Lib.hid k2
        clear k1 k2
        go_enter Tryz.func81, Tryz.ntmps81
        go_upto_region 1 with (fail)
        refine wp_world (fun V => Below W.heap.size W V ∧ Blk V (W.heap.size) 26 #[.int .i64 t1.kind, .int .i64 t1.int, .string ⟨t1.name.toArray⟩, .slice A1 n1 c1] ∧ Blk V (W.heap.size + 1) 26 #[.int .i64 t2.kind, .int .i64 t2.int, .string ⟨t2.name.toArray⟩, .slice A2 n2 c2] ∧ Blk V (W.heap.size + 1 + 1) 26 #[.int .i64 0, .int .i64 0, .string ⟨#[]⟩, .slice none 0 0]) ⟨below_step (below_step (below_alloc _ _) (below_alloc _ _)) (below_alloc _ _), (((Blk.newAt (by first | (with_reducible rfl) | simp)).alloc _).alloc _), ((Blk.newAt (by first | (with_reducible rfl) | simp)).alloc _), (Blk.newAt (by first | (with_reducible rfl) | simp))⟩ ?_
        rintro V ⟨hb, hq1, hq2, hz⟩
        have HB := Lib.hid hb
        have HKq1 := Lib.hid hq1
        have HKq2 := Lib.hid hq2
        have HKz := Lib.hid hz
        have q10 := HKq1.out.cell 0
        have q11 := HKq1.out.cell 1
        have q12 := HKq1.out.cell 2
        have q13 := HKq1.out.cell 3
        have q1f0 := HKq1.out.frozen 0
        have q1f1 := HKq1.out.frozen 1
        have q1f2 := HKq1.out.frozen 2
        have q1f3 := HKq1.out.frozen 3
        have q20 := HKq2.out.cell 0
        have q21 := HKq2.out.cell 1
        have q22 := HKq2.out.cell 2
        have q23 := HKq2.out.cell 3
        have q2f0 := HKq2.out.frozen 0
        have q2f1 := HKq2.out.frozen 1
        have q2f2 := HKq2.out.frozen 2
        have q2f3 := HKq2.out.frozen 3
        have z0 := HKz.out.cell 0
        have z1 := HKz.out.cell 1
        have z2 := HKz.out.cell 2
        have z3 := HKz.out.cell 3
        have zf0 := HKz.out.frozen 0
        have zf1 := HKz.out.frozen 1
        have zf2 := HKz.out.frozen 2
        have zf3 := HKz.out.frozen 3
        clear hb hq1 hq2 hz
        have k1 := K1.out
        have k2 := K2.out
        have z2 := Z2.out
        go_wp2
        have hB2 := HKz.out.set4 (.int .i64 0) (.int .i64 0) (.string ⟨#[]⟩) (.slice none 0 0)
        have y0 := hB2.cell 0
        have y1 := hB2.cell 1
        have y2 := hB2.cell 2
        have y3 := hB2.cell 3
        refine bodyPost_ret (v := .tuple #[.agg #[.int .i64 0, .int .i64 0, .string ⟨#[]⟩, .slice none 0 0], .string ⟨(sAri).toArray⟩]) (by simp [results, Tryz.results81, go_sem, y0, y1, y2, y3, sAri]) rfl ?_
        obtain ⟨g1, g2⟩ := fin4 (X := X) (p := W.heap.size + 1 + 1) HB.out (by omega) (tex_z _ _)
        exact ⟨_, rfl, g1, g2⟩
      · rw [if_neg z2]
        have Z2 := Lib.hid z2
        clear hi1 hi2 z2
        have K1 := Lib.hid k1
        have K2 := Lib.hid k2
        clear k1 k2
        go_enter Tryz.func81, Tryz.ntmps81
        go_upto_region 1 with (fail)
        refine wp_world (fun V => Below W.heap.size W V ∧ Blk V (W.heap.size) 26 #[.int .i64 t1.kind, .int .i64 t1.int, .string ⟨t1.name.toArray⟩, .slice A1 n1 c1] ∧ Blk V (W.heap.size + 1) 26 #[.int .i64 t2.kind, .int .i64 t2.int, .string ⟨t2.name.toArray⟩, .slice A2 n2 c2] ∧ Blk V (W.heap.size + 1 + 1) 26 #[.int .i64 0, .int .i64 0, .string ⟨#[]⟩, .slice none 0 0]) ⟨below_step (below_step (below_alloc _ _) (below_alloc _ _)) (below_alloc _ _), (((Blk.newAt (by first | (with_reducible rfl) | simp)).alloc _).alloc _), ((Blk.newAt (by first | (with_reducible rfl) | simp)).alloc _), (Blk.newAt (by first | (with_reducible rfl) | simp))⟩ ?_
        rintro V ⟨hb, hq1, hq2, hz⟩
        have HB := Lib.hid hb
        have HKq1 := Lib.hid hq1
        have HKq2 := Lib.hid hq2
        have HKz := Lib.hid hz
        have q10 := HKq1.out.cell 0
        have q11 := HKq1.out.cell 1
        have q12 := HKq1.out.cell 2
        have q13 := HKq1.out.cell 3
        have q1f0 := HKq1.out.frozen 0
        have q1f1 := HKq1.out.frozen 1
        have q1f2 := HKq1.out.frozen 2
        have q1f3 := HKq1.out.frozen 3
        have q20 := HKq2.out.cell 0
        have q21 := HKq2.out.cell 1
        have q22 := HKq2.out.cell 2
        have q23 := HKq2.out.cell 3
        have q2f0 := HKq2.out.frozen 0
        have q2f1 := HKq2.out.frozen 1
        have q2f2 := HKq2.out.frozen 2
        have q2f3 := HKq2.out.frozen 3
        have z0 := HKz.out.cell 0
        have z1 := HKz.out.cell 1
        have z2 := HKz.out.cell 2
        have z3 := HKz.out.cell 3
        have zf0 := HKz.out.frozen 0
        have zf1 := HKz.out.frozen 1
        have zf2 := HKz.out.frozen 2
        have zf3 := HKz.out.frozen 3
        clear hb hq1 hq2 hz
        have k1 := K1.out
        have k2 := K2.out
        have z2 := Z2.out
        go_wp2_with (go_at_call 75; refine (rnumber_v (X := (fun k => X k ∨ k = W.heap.size + 1 + 1)) (W := V) (by rintro k (hk | rfl); exact Nat.lt_of_lt_of_le (HX.out k hk) HB.out.size; exact HKz.out.lt) _).mono ?_; rintro e w1 ⟨v, rfl, hT, hb1⟩; obtain ⟨A9, n9, c9, rfl, hn⟩ := hT.form; have HT := Lib.hid hT; have HKq1 := Lib.hid (HKq1.out.keep hb1); have HKq2 := Lib.hid (HKq2.out.keep hb1); have HKz := Lib.hid (HKz.out.keep hb1); have HB := Lib.hid (below_step HB.out hb1); have q10 := HKq1.out.cell 0; have q11 := HKq1.out.cell 1; have q12 := HKq1.out.cell 2; have q13 := HKq1.out.cell 3; have q1f0 := HKq1.out.frozen 0; have q1f1 := HKq1.out.frozen 1; have q1f2 := HKq1.out.frozen 2; have q1f3 := HKq1.out.frozen 3; have q20 := HKq2.out.cell 0; have q21 := HKq2.out.cell 1; have q22 := HKq2.out.cell 2; have q23 := HKq2.out.cell 3; have q2f0 := HKq2.out.frozen 0; have q2f1 := HKq2.out.frozen 1; have q2f2 := HKq2.out.frozen 2; have q2f3 := HKq2.out.frozen 3; have z0 := HKz.out.cell 0; have z1 := HKz.out.cell 1; have z2 := HKz.out.cell 2; have z3 := HKz.out.cell 3; have zf0 := HKz.out.frozen 0; have zf1 := HKz.out.frozen 1; have zf2 := HKz.out.frozen 2; have zf3 := HKz.out.frozen 3; clear hn hT hb1)
        have hB2 := HKz.out.set4 (.int .i64 ((numP (t1.int.tmod t2.int)).1).kind) (.int .i64 ((numP (t1.int.tmod t2.int)).1).int) (.string ⟨((numP (t1.int.tmod t2.int)).1).name.toArray⟩) (.slice A9 n9 c9)
        have y0 := hB2.cell 0
        have y1 := hB2.cell 1
        have y2 := hB2.cell 2
        have y3 := hB2.cell 3
        refine bodyPost_ret (v := .tuple #[.agg #[.int .i64 ((numP (t1.int.tmod t2.int)).1).kind, .int .i64 ((numP (t1.int.tmod t2.int)).1).int, .string ⟨((numP (t1.int.tmod t2.int)).1).name.toArray⟩, .slice A9 n9 c9], .string ⟨((numP (t1.int.tmod t2.int)).2).toArray⟩]) (by simp [results, Tryz.results81, go_sem, y0, y1, y2, y3]) rfl ?_
        obtain ⟨g1, g2⟩ := fin4 (X := X) HB.out (by omega) HT.out
        exact ⟨_, rfl, g1, g2⟩
    · rw [if_neg (fun h => k2 h.2)]
      clear hi1 hi2
      have K1 := Lib.hid k1
      have K2 := Lib.hid k2
      clear k1 k2
      go_enter Tryz.func81, Tryz.ntmps81
      go_upto_region 1 with (fail)
      refine wp_world (fun V => Below W.heap.size W V ∧ Blk V (W.heap.size) 26 #[.int .i64 t1.kind, .int .i64 t1.int, .string ⟨t1.name.toArray⟩, .slice A1 n1 c1] ∧ Blk V (W.heap.size + 1) 26 #[.int .i64 t2.kind, .int .i64 t2.int, .string ⟨t2.name.toArray⟩, .slice A2 n2 c2] ∧ Blk V (W.heap.size + 1 + 1) 26 #[.int .i64 0, .int .i64 0, .string ⟨#[]⟩, .slice none 0 0]) ⟨below_step (below_step (below_alloc _ _) (below_alloc _ _)) (below_alloc _ _), (((Blk.newAt (by first | (with_reducible rfl) | simp)).alloc _).alloc _), ((Blk.newAt (by first | (with_reducible rfl) | simp)).alloc _), (Blk.newAt (by first | (with_reducible rfl) | simp))⟩ ?_
      rintro V ⟨hb, hq1, hq2, hz⟩
      have HB := Lib.hid hb
      have HKq1 := Lib.hid hq1
      have HKq2 := Lib.hid hq2
      have HKz := Lib.hid hz
      have q10 := HKq1.out.cell 0
      have q11 := HKq1.out.cell 1
      have q12 := HKq1.out.cell 2
      have q13 := HKq1.out.cell 3
      have q1f0 := HKq1.out.frozen 0
      have q1f1 := HKq1.out.frozen 1
      have q1f2 := HKq1.out.frozen 2
      have q1f3 := HKq1.out.frozen 3
      have q20 := HKq2.out.cell 0
      have q21 := HKq2.out.cell 1
      have q22 := HKq2.out.cell 2
      have q23 := HKq2.out.cell 3
      have q2f0 := HKq2.out.frozen 0
      have q2f1 := HKq2.out.frozen 1
      have q2f2 := HKq2.out.frozen 2
      have q2f3 := HKq2.out.frozen 3
      have z0 := HKz.out.cell 0
      have z1 := HKz.out.cell 1
      have z2 := HKz.out.cell 2
      have z3 := HKz.out.cell 3
      have zf0 := HKz.out.frozen 0
      have zf1 := HKz.out.frozen 1
      have zf2 := HKz.out.frozen 2
      have zf3 := HKz.out.frozen 3
      clear hb hq1 hq2 hz
      have k1 := K1.out
      have k2 := K2.out
      go_wp2
      have hB2 := HKz.out.set4 (.int .i64 0) (.int .i64 0) (.string ⟨#[]⟩) (.slice none 0 0)
      have y0 := hB2.cell 0
      have y1 := hB2.cell 1
      have y2 := hB2.cell 2
      have y3 := hB2.cell 3
      refine bodyPost_ret (v := .tuple #[.agg #[.int .i64 0, .int .i64 0, .string ⟨#[]⟩, .slice none 0 0], .string ⟨(sAri).toArray⟩]) (by simp [results, Tryz.results81, go_sem, y0, y1, y2, y3, sAri]) rfl ?_
      obtain ⟨g1, g2⟩ := fin4 (X := X) (p := W.heap.size + 1 + 1) HB.out (by omega) (tex_z _ _)
      exact ⟨_, rfl, g1, g2⟩
  · rw [if_neg (fun h => k1 h.1)]
    have K1 := Lib.hid k1
    clear hi1 hi2 k1
    go_enter Tryz.func81, Tryz.ntmps81
    go_upto_region 1 with (fail)
    refine wp_world (fun V => Below W.heap.size W V ∧ Blk V (W.heap.size) 26 #[.int .i64 t1.kind, .int .i64 t1.int, .string ⟨t1.name.toArray⟩, .slice A1 n1 c1] ∧ Blk V (W.heap.size + 1) 26 #[.int .i64 t2.kind, .int .i64 t2.int, .string ⟨t2.name.toArray⟩, .slice A2 n2 c2] ∧ Blk V (W.heap.size + 1 + 1) 26 #[.int .i64 0, .int .i64 0, .string ⟨#[]⟩, .slice none 0 0]) ⟨below_step (below_step (below_alloc _ _) (below_alloc _ _)) (below_alloc _ _), (((Blk.newAt (by first | (with_reducible rfl) | simp)).alloc _).alloc _), ((Blk.newAt (by first | (with_reducible rfl) | simp)).alloc _), (Blk.newAt (by first | (with_reducible rfl) | simp))⟩ ?_
    rintro V ⟨hb, hq1, hq2, hz⟩
    have HB := Lib.hid hb
    have HKq1 := Lib.hid hq1
    have HKq2 := Lib.hid hq2
    have HKz := Lib.hid hz
    have q10 := HKq1.out.cell 0
    have q11 := HKq1.out.cell 1
    have q12 := HKq1.out.cell 2
    have q13 := HKq1.out.cell 3
    have q1f0 := HKq1.out.frozen 0
    have q1f1 := HKq1.out.frozen 1
    have q1f2 := HKq1.out.frozen 2
    have q1f3 := HKq1.out.frozen 3
    have q20 := HKq2.out.cell 0
    have q21 := HKq2.out.cell 1
    have q22 := HKq2.out.cell 2
    have q23 := HKq2.out.cell 3
    have q2f0 := HKq2.out.frozen 0
    have q2f1 := HKq2.out.frozen 1
    have q2f2 := HKq2.out.frozen 2
    have q2f3 := HKq2.out.frozen 3
    have z0 := HKz.out.cell 0
    have z1 := HKz.out.cell 1
    have z2 := HKz.out.cell 2
    have z3 := HKz.out.cell 3
    have zf0 := HKz.out.frozen 0
    have zf1 := HKz.out.frozen 1
    have zf2 := HKz.out.frozen 2
    have zf3 := HKz.out.frozen 3
    clear hb hq1 hq2 hz
    have k1 := K1.out
    go_wp2
    have hB2 := HKz.out.set4 (.int .i64 0) (.int .i64 0) (.string ⟨#[]⟩) (.slice none 0 0)
    have y0 := hB2.cell 0
    have y1 := hB2.cell 1
    have y2 := hB2.cell 2
    have y3 := hB2.cell 3
    refine bodyPost_ret (v := .tuple #[.agg #[.int .i64 0, .int .i64 0, .string ⟨#[]⟩, .slice none 0 0], .string ⟨(sAri).toArray⟩]) (by simp [results, Tryz.results81, go_sem, y0, y1, y2, y3, sAri]) rfl ?_
    obtain ⟨g1, g2⟩ := fin4 (X := X) (p := W.heap.size + 1 + 1) HB.out (by omega) (tex_z _ _)
    exact ⟨_, rfl, g1, g2⟩
end
end Go.Proofs.YtbpnlpjbjmojfaaGreat
