/- Arith (layer 14), the document's answer: one, but what asks for Elements. Written by argenrd.py. -/
import Derived.Test.YtbpnlpjbjmojfaaGreatArRb
namespace Go.Proofs.YtbpnlpjbjmojfaaGreat
open Go.RowKit
set_option linter.unusedVariables false
section
variable {W V V' : World} {u u1 u2 : Value} {t t1 t2 : TV}

set_option maxRecDepth 100000 in
set_option maxHeartbeats 1000000 in
theorem rone_neg {X : Nat → Prop} (hX : ∀ k, X k → k < W.heap.size) (h1 : TEx X W u1 t1) (hi : -1152921504606846976 ≤ t1.int ∧ t1.int ≤ 1152921504606846976) : Calls Tryz.prog 23 #[.string ⟨#[45]⟩, u1] W (R2 X W (if t1.kind = 1 then numP (-t1.int) else (tZ, sAri))) := by
  obtain ⟨A1, n1, c1, rfl, hn1⟩ := h1.form
  have H1 := Lib.hid h1
  have HN1 := Lib.hid hn1
  have HX := Lib.hid hX
  clear h1 hn1 hX
  have hw : wrap64 (-t1.int) = -t1.int := by unfold wrap64; omega
  clear hi
  by_cases k1 : t1.kind = 1
  · rw [if_pos k1]
    have Ik1 := Lib.hid k1
    have Ihw := Lib.hid hw
    clear k1 hw
    go_enter Tryz.func23, Tryz.ntmps23
    go_upto_region 1 with (fail)
    refine wp_world (fun V => Below W.heap.size W V ∧ Blk V (W.heap.size) 26 #[.int .i64 t1.kind, .int .i64 t1.int, .string ⟨t1.name.toArray⟩, .slice A1 n1 c1] ∧ Blk V (W.heap.size + 1) 26 #[.int .i64 0, .int .i64 0, .string ⟨#[]⟩, .slice none 0 0]) ⟨below_step (below_alloc _ _) (below_alloc _ _), ((Blk.newAt (by first | (with_reducible rfl) | simp)).alloc _), (Blk.newAt (by first | (with_reducible rfl) | simp))⟩ ?_
    rintro V ⟨hb, hq1, hz⟩
    have HB := Lib.hid hb
    have HKq1 := Lib.hid hq1
    have HKz := Lib.hid hz
    have q10 := HKq1.out.cell 0
    have q11 := HKq1.out.cell 1
    have q12 := HKq1.out.cell 2
    have q13 := HKq1.out.cell 3
    have q1f0 := HKq1.out.frozen 0
    have q1f1 := HKq1.out.frozen 1
    have q1f2 := HKq1.out.frozen 2
    have q1f3 := HKq1.out.frozen 3
    have z0 := HKz.out.cell 0
    have z1 := HKz.out.cell 1
    have z2 := HKz.out.cell 2
    have z3 := HKz.out.cell 3
    have zf0 := HKz.out.frozen 0
    have zf1 := HKz.out.frozen 1
    have zf2 := HKz.out.frozen 2
    have zf3 := HKz.out.frozen 3
    clear hb hq1 hz
    have k1 := Ik1.out
    have hw := Ihw.out
    go_wp2_with (go_at_call 75; refine (rnumber_v (X := (fun k => X k ∨ k = W.heap.size + 1)) (W := V) (by rintro k (hk | rfl); exact Nat.lt_of_lt_of_le (HX.out k hk) HB.out.size; exact HKz.out.lt) _).mono ?_; rintro e w1 ⟨v, rfl, hT, hb1⟩; obtain ⟨A9, n9, c9, rfl, hn⟩ := hT.form; have HT := Lib.hid hT; have HKq1 := Lib.hid (HKq1.out.keep hb1); have HKz := Lib.hid (HKz.out.keep hb1); have HB := Lib.hid (below_step HB.out hb1); have q10 := HKq1.out.cell 0; have q11 := HKq1.out.cell 1; have q12 := HKq1.out.cell 2; have q13 := HKq1.out.cell 3; have q1f0 := HKq1.out.frozen 0; have q1f1 := HKq1.out.frozen 1; have q1f2 := HKq1.out.frozen 2; have q1f3 := HKq1.out.frozen 3; have z0 := HKz.out.cell 0; have z1 := HKz.out.cell 1; have z2 := HKz.out.cell 2; have z3 := HKz.out.cell 3; have zf0 := HKz.out.frozen 0; have zf1 := HKz.out.frozen 1; have zf2 := HKz.out.frozen 2; have zf3 := HKz.out.frozen 3; clear hn hT hb1)
    have hB2 := HKz.out.set4 (.int .i64 ((numP (-t1.int)).1).kind) (.int .i64 ((numP (-t1.int)).1).int) (.string ⟨((numP (-t1.int)).1).name.toArray⟩) (.slice A9 n9 c9)
    have y0 := hB2.cell 0
    have y1 := hB2.cell 1
    have y2 := hB2.cell 2
    have y3 := hB2.cell 3
    refine bodyPost_ret (v := .tuple #[.agg #[.int .i64 ((numP (-t1.int)).1).kind, .int .i64 ((numP (-t1.int)).1).int, .string ⟨((numP (-t1.int)).1).name.toArray⟩, .slice A9 n9 c9], .string ⟨((numP (-t1.int)).2).toArray⟩]) (by simp [results, Tryz.results23, go_sem, y0, y1, y2, y3]) rfl ?_
    obtain ⟨g1, g2⟩ := fin4 (X := X) HB.out (by omega) HT.out
    exact ⟨_, rfl, g1, g2⟩
  · rw [if_neg k1]
    clear hw
    have Ik1 := Lib.hid k1
    clear k1
    go_enter Tryz.func23, Tryz.ntmps23
    go_upto_region 1 with (fail)
    refine wp_world (fun V => Below W.heap.size W V ∧ Blk V (W.heap.size) 26 #[.int .i64 t1.kind, .int .i64 t1.int, .string ⟨t1.name.toArray⟩, .slice A1 n1 c1] ∧ Blk V (W.heap.size + 1) 26 #[.int .i64 0, .int .i64 0, .string ⟨#[]⟩, .slice none 0 0]) ⟨below_step (below_alloc _ _) (below_alloc _ _), ((Blk.newAt (by first | (with_reducible rfl) | simp)).alloc _), (Blk.newAt (by first | (with_reducible rfl) | simp))⟩ ?_
    rintro V ⟨hb, hq1, hz⟩
    have HB := Lib.hid hb
    have HKq1 := Lib.hid hq1
    have HKz := Lib.hid hz
    have q10 := HKq1.out.cell 0
    have q11 := HKq1.out.cell 1
    have q12 := HKq1.out.cell 2
    have q13 := HKq1.out.cell 3
    have q1f0 := HKq1.out.frozen 0
    have q1f1 := HKq1.out.frozen 1
    have q1f2 := HKq1.out.frozen 2
    have q1f3 := HKq1.out.frozen 3
    have z0 := HKz.out.cell 0
    have z1 := HKz.out.cell 1
    have z2 := HKz.out.cell 2
    have z3 := HKz.out.cell 3
    have zf0 := HKz.out.frozen 0
    have zf1 := HKz.out.frozen 1
    have zf2 := HKz.out.frozen 2
    have zf3 := HKz.out.frozen 3
    clear hb hq1 hz
    have k1 := Ik1.out
    go_wp2
    have hB2 := HKz.out.set4 (.int .i64 0) (.int .i64 0) (.string ⟨#[]⟩) (.slice none 0 0)
    have y0 := hB2.cell 0
    have y1 := hB2.cell 1
    have y2 := hB2.cell 2
    have y3 := hB2.cell 3
    refine bodyPost_ret (v := .tuple #[.agg #[.int .i64 0, .int .i64 0, .string ⟨#[]⟩, .slice none 0 0], .string ⟨(sAri).toArray⟩]) (by simp [results, Tryz.results23, go_sem, y0, y1, y2, y3, sAri]) rfl ?_
    obtain ⟨g1, g2⟩ := fin4 (X := X) (p := W.heap.size + 1) HB.out (by omega) (tex_z _ _)
    exact ⟨_, rfl, g1, g2⟩
set_option maxRecDepth 100000 in
set_option maxHeartbeats 1000000 in
theorem rone_not {X : Nat → Prop} (hX : ∀ k, X k → k < W.heap.size) (h1 : TEx X W u1 t1) : Calls Tryz.prog 23 #[.string ⟨#[110, 111, 116]⟩, u1] W (R2 X W (if (lgP t1).2 = true then (truT (!(lgP t1).1), []) else (tZ, sArg))) := by
  obtain ⟨A1, n1, c1, rfl, hn1⟩ := h1.form
  have H1 := Lib.hid h1
  have HN1 := Lib.hid hn1
  have HX := Lib.hid hX
  clear h1 hn1 hX
  have HL1 : Hid (∀ V, Below W.heap.size W V → Calls Tryz.prog 76 #[.agg #[.int .i64 t1.kind, .int .i64 t1.int, .string ⟨t1.name.toArray⟩, .slice A1 n1 c1]] V fun e w' => e = .returned (.tuple #[.bool (lgP t1).1, .bool (lgP t1).2]) ∧ Below V.heap.size V w') := fun V hb => rlogic_v (X := X) (fun k hk => Nat.lt_of_lt_of_le (HX.out k hk) hb.size) (H1.out.below hb)
  obtain ⟨x1, y1, hp1⟩ : ∃ x y, lgP t1 = (x, y) := ⟨_, _, rfl⟩
  rw [hp1] at HL1 ⊢
  clear hp1
  cases y1 with
  | false =>
    rw [if_neg (fun h => by simp at h)]
    go_enter Tryz.func23, Tryz.ntmps23
    go_upto_region 1 with (fail)
    refine wp_world (fun V => Below W.heap.size W V ∧ Blk V (W.heap.size) 26 #[.int .i64 t1.kind, .int .i64 t1.int, .string ⟨t1.name.toArray⟩, .slice A1 n1 c1] ∧ Blk V (W.heap.size + 1) 26 #[.int .i64 0, .int .i64 0, .string ⟨#[]⟩, .slice none 0 0]) ⟨below_step (below_alloc _ _) (below_alloc _ _), ((Blk.newAt (by first | (with_reducible rfl) | simp)).alloc _), (Blk.newAt (by first | (with_reducible rfl) | simp))⟩ ?_
    rintro V ⟨hb, hq1, hz⟩
    have HB := Lib.hid hb
    have HKq1 := Lib.hid hq1
    have HKz := Lib.hid hz
    have q10 := HKq1.out.cell 0
    have q11 := HKq1.out.cell 1
    have q12 := HKq1.out.cell 2
    have q13 := HKq1.out.cell 3
    have q1f0 := HKq1.out.frozen 0
    have q1f1 := HKq1.out.frozen 1
    have q1f2 := HKq1.out.frozen 2
    have q1f3 := HKq1.out.frozen 3
    have z0 := HKz.out.cell 0
    have z1 := HKz.out.cell 1
    have z2 := HKz.out.cell 2
    have z3 := HKz.out.cell 3
    have zf0 := HKz.out.frozen 0
    have zf1 := HKz.out.frozen 1
    have zf2 := HKz.out.frozen 2
    have zf3 := HKz.out.frozen 3
    clear hb hq1 hz
    go_wp2_with (go_at_call 76; with_reducible refine (HL1.out V HB.out).mono ?_; rintro e V ⟨rfl, hb1⟩; have HKq1 := Lib.hid (HKq1.out.keep hb1); have HKz := Lib.hid (HKz.out.keep hb1); have HB := Lib.hid (below_step HB.out hb1); have q10 := HKq1.out.cell 0; have q11 := HKq1.out.cell 1; have q12 := HKq1.out.cell 2; have q13 := HKq1.out.cell 3; have q1f0 := HKq1.out.frozen 0; have q1f1 := HKq1.out.frozen 1; have q1f2 := HKq1.out.frozen 2; have q1f3 := HKq1.out.frozen 3; have z0 := HKz.out.cell 0; have z1 := HKz.out.cell 1; have z2 := HKz.out.cell 2; have z3 := HKz.out.cell 3; have zf0 := HKz.out.frozen 0; have zf1 := HKz.out.frozen 1; have zf2 := HKz.out.frozen 2; have zf3 := HKz.out.frozen 3; clear hb1)
    have hB2 := HKz.out.set4 (.int .i64 0) (.int .i64 0) (.string ⟨#[]⟩) (.slice none 0 0)
    have y0 := hB2.cell 0
    have y1 := hB2.cell 1
    have y2 := hB2.cell 2
    have y3 := hB2.cell 3
    refine bodyPost_ret (v := .tuple #[.agg #[.int .i64 0, .int .i64 0, .string ⟨#[]⟩, .slice none 0 0], .string ⟨(sArg).toArray⟩]) (by simp [results, Tryz.results23, go_sem, y0, y1, y2, y3, sArg]) rfl ?_
    obtain ⟨g1, g2⟩ := fin4 (X := X) (p := W.heap.size + 1) HB.out (by omega) (tex_z _ _)
    exact ⟨_, rfl, g1, g2⟩
  | true =>
    rw [if_pos rfl]
    cases x1 with
    | false =>
      show Calls _ _ _ _ (R2 X W (truT true, []))
      go_enter Tryz.func23, Tryz.ntmps23
      go_upto_region 1 with (fail)
      refine wp_world (fun V => Below W.heap.size W V ∧ Blk V (W.heap.size) 26 #[.int .i64 t1.kind, .int .i64 t1.int, .string ⟨t1.name.toArray⟩, .slice A1 n1 c1] ∧ Blk V (W.heap.size + 1) 26 #[.int .i64 0, .int .i64 0, .string ⟨#[]⟩, .slice none 0 0]) ⟨below_step (below_alloc _ _) (below_alloc _ _), ((Blk.newAt (by first | (with_reducible rfl) | simp)).alloc _), (Blk.newAt (by first | (with_reducible rfl) | simp))⟩ ?_
      rintro V ⟨hb, hq1, hz⟩
      have HB := Lib.hid hb
      have HKq1 := Lib.hid hq1
      have HKz := Lib.hid hz
      have q10 := HKq1.out.cell 0
      have q11 := HKq1.out.cell 1
      have q12 := HKq1.out.cell 2
      have q13 := HKq1.out.cell 3
      have q1f0 := HKq1.out.frozen 0
      have q1f1 := HKq1.out.frozen 1
      have q1f2 := HKq1.out.frozen 2
      have q1f3 := HKq1.out.frozen 3
      have z0 := HKz.out.cell 0
      have z1 := HKz.out.cell 1
      have z2 := HKz.out.cell 2
      have z3 := HKz.out.cell 3
      have zf0 := HKz.out.frozen 0
      have zf1 := HKz.out.frozen 1
      have zf2 := HKz.out.frozen 2
      have zf3 := HKz.out.frozen 3
      clear hb hq1 hz
      go_wp2_with (first | (go_at_call 76; with_reducible refine (HL1.out V HB.out).mono ?_; rintro e V ⟨rfl, hb1⟩; have HKq1 := Lib.hid (HKq1.out.keep hb1); have HKz := Lib.hid (HKz.out.keep hb1); have HB := Lib.hid (below_step HB.out hb1); have q10 := HKq1.out.cell 0; have q11 := HKq1.out.cell 1; have q12 := HKq1.out.cell 2; have q13 := HKq1.out.cell 3; have q1f0 := HKq1.out.frozen 0; have q1f1 := HKq1.out.frozen 1; have q1f2 := HKq1.out.frozen 2; have q1f3 := HKq1.out.frozen 3; have z0 := HKz.out.cell 0; have z1 := HKz.out.cell 1; have z2 := HKz.out.cell 2; have z3 := HKz.out.cell 3; have zf0 := HKz.out.frozen 0; have zf1 := HKz.out.frozen 1; have zf2 := HKz.out.frozen 2; have zf3 := HKz.out.frozen 3; clear hb1) | (go_at_call 77; refine (rtruth_v (fun k => X k ∨ k = W.heap.size + 1) true V).mono ?_; rintro e w1 ⟨v, rfl, hT, hb1⟩; obtain ⟨A9, n9, c9, rfl, hn⟩ := hT.form; have HT := Lib.hid hT; have HKq1 := Lib.hid (HKq1.out.keep hb1); have HKz := Lib.hid (HKz.out.keep hb1); have HB := Lib.hid (below_step HB.out hb1); have q10 := HKq1.out.cell 0; have q11 := HKq1.out.cell 1; have q12 := HKq1.out.cell 2; have q13 := HKq1.out.cell 3; have q1f0 := HKq1.out.frozen 0; have q1f1 := HKq1.out.frozen 1; have q1f2 := HKq1.out.frozen 2; have q1f3 := HKq1.out.frozen 3; have z0 := HKz.out.cell 0; have z1 := HKz.out.cell 1; have z2 := HKz.out.cell 2; have z3 := HKz.out.cell 3; have zf0 := HKz.out.frozen 0; have zf1 := HKz.out.frozen 1; have zf2 := HKz.out.frozen 2; have zf3 := HKz.out.frozen 3; clear hn hT hb1))
      have hB2 := HKz.out.set4 (.int .i64 ((truT true)).kind) (.int .i64 ((truT true)).int) (.string ⟨((truT true)).name.toArray⟩) (.slice A9 n9 c9)
      have y0 := hB2.cell 0
      have y1 := hB2.cell 1
      have y2 := hB2.cell 2
      have y3 := hB2.cell 3
      refine bodyPost_ret (v := .tuple #[.agg #[.int .i64 ((truT true)).kind, .int .i64 ((truT true)).int, .string ⟨((truT true)).name.toArray⟩, .slice A9 n9 c9], .string ⟨(([] : List UInt8)).toArray⟩]) (by simp [results, Tryz.results23, go_sem, y0, y1, y2, y3]) rfl ?_
      obtain ⟨g1, g2⟩ := fin4 (X := X) HB.out (by omega) HT.out
      exact ⟨_, rfl, g1, g2⟩
    | true =>
      show Calls _ _ _ _ (R2 X W (truT false, []))
      go_enter Tryz.func23, Tryz.ntmps23
      go_upto_region 1 with (fail)
      refine wp_world (fun V => Below W.heap.size W V ∧ Blk V (W.heap.size) 26 #[.int .i64 t1.kind, .int .i64 t1.int, .string ⟨t1.name.toArray⟩, .slice A1 n1 c1] ∧ Blk V (W.heap.size + 1) 26 #[.int .i64 0, .int .i64 0, .string ⟨#[]⟩, .slice none 0 0]) ⟨below_step (below_alloc _ _) (below_alloc _ _), ((Blk.newAt (by first | (with_reducible rfl) | simp)).alloc _), (Blk.newAt (by first | (with_reducible rfl) | simp))⟩ ?_
      rintro V ⟨hb, hq1, hz⟩
      have HB := Lib.hid hb
      have HKq1 := Lib.hid hq1
      have HKz := Lib.hid hz
      have q10 := HKq1.out.cell 0
      have q11 := HKq1.out.cell 1
      have q12 := HKq1.out.cell 2
      have q13 := HKq1.out.cell 3
      have q1f0 := HKq1.out.frozen 0
      have q1f1 := HKq1.out.frozen 1
      have q1f2 := HKq1.out.frozen 2
      have q1f3 := HKq1.out.frozen 3
      have z0 := HKz.out.cell 0
      have z1 := HKz.out.cell 1
      have z2 := HKz.out.cell 2
      have z3 := HKz.out.cell 3
      have zf0 := HKz.out.frozen 0
      have zf1 := HKz.out.frozen 1
      have zf2 := HKz.out.frozen 2
      have zf3 := HKz.out.frozen 3
      clear hb hq1 hz
      go_wp2_with (first | (go_at_call 76; with_reducible refine (HL1.out V HB.out).mono ?_; rintro e V ⟨rfl, hb1⟩; have HKq1 := Lib.hid (HKq1.out.keep hb1); have HKz := Lib.hid (HKz.out.keep hb1); have HB := Lib.hid (below_step HB.out hb1); have q10 := HKq1.out.cell 0; have q11 := HKq1.out.cell 1; have q12 := HKq1.out.cell 2; have q13 := HKq1.out.cell 3; have q1f0 := HKq1.out.frozen 0; have q1f1 := HKq1.out.frozen 1; have q1f2 := HKq1.out.frozen 2; have q1f3 := HKq1.out.frozen 3; have z0 := HKz.out.cell 0; have z1 := HKz.out.cell 1; have z2 := HKz.out.cell 2; have z3 := HKz.out.cell 3; have zf0 := HKz.out.frozen 0; have zf1 := HKz.out.frozen 1; have zf2 := HKz.out.frozen 2; have zf3 := HKz.out.frozen 3; clear hb1) | (go_at_call 77; refine (rtruth_v (fun k => X k ∨ k = W.heap.size + 1) false V).mono ?_; rintro e w1 ⟨v, rfl, hT, hb1⟩; obtain ⟨A9, n9, c9, rfl, hn⟩ := hT.form; have HT := Lib.hid hT; have HKq1 := Lib.hid (HKq1.out.keep hb1); have HKz := Lib.hid (HKz.out.keep hb1); have HB := Lib.hid (below_step HB.out hb1); have q10 := HKq1.out.cell 0; have q11 := HKq1.out.cell 1; have q12 := HKq1.out.cell 2; have q13 := HKq1.out.cell 3; have q1f0 := HKq1.out.frozen 0; have q1f1 := HKq1.out.frozen 1; have q1f2 := HKq1.out.frozen 2; have q1f3 := HKq1.out.frozen 3; have z0 := HKz.out.cell 0; have z1 := HKz.out.cell 1; have z2 := HKz.out.cell 2; have z3 := HKz.out.cell 3; have zf0 := HKz.out.frozen 0; have zf1 := HKz.out.frozen 1; have zf2 := HKz.out.frozen 2; have zf3 := HKz.out.frozen 3; clear hn hT hb1))
      have hB2 := HKz.out.set4 (.int .i64 ((truT false)).kind) (.int .i64 ((truT false)).int) (.string ⟨((truT false)).name.toArray⟩) (.slice A9 n9 c9)
      have y0 := hB2.cell 0
      have y1 := hB2.cell 1
      have y2 := hB2.cell 2
      have y3 := hB2.cell 3
      refine bodyPost_ret (v := .tuple #[.agg #[.int .i64 ((truT false)).kind, .int .i64 ((truT false)).int, .string ⟨((truT false)).name.toArray⟩, .slice A9 n9 c9], .string ⟨(([] : List UInt8)).toArray⟩]) (by simp [results, Tryz.results23, go_sem, y0, y1, y2, y3]) rfl ?_
      obtain ⟨g1, g2⟩ := fin4 (X := X) HB.out (by omega) HT.out
      exact ⟨_, rfl, g1, g2⟩
set_option maxRecDepth 100000 in
set_option maxHeartbeats 1000000 in
theorem rone_is_integer {X : Nat → Prop} (hX : ∀ k, X k → k < W.heap.size) (h1 : TEx X W u1 t1) : Calls Tryz.prog 23 #[.string ⟨#[105, 115, 95, 105, 110, 116, 101, 103, 101, 114]⟩, u1] W (R2 X W (truT (([1] : List Int).contains t1.kind), [])) := by
  obtain ⟨A1, n1, c1, rfl, hn1⟩ := h1.form
  have H1 := Lib.hid h1
  have HN1 := Lib.hid hn1
  have HX := Lib.hid hX
  clear h1 hn1 hX
  obtain ⟨b, hb⟩ : ∃ b, (([1] : List Int).contains t1.kind) = b := ⟨_, rfl⟩
  rw [hb]
  have hb2 : (t1.kind == 1) = b := by rw [← hb]; simp; rfl
  clear hb
  have Ihb2 := Lib.hid hb2
  clear hb2
  go_enter Tryz.func23, Tryz.ntmps23
  go_upto_region 1 with (fail)
  refine wp_world (fun V => Below W.heap.size W V ∧ Blk V (W.heap.size) 26 #[.int .i64 t1.kind, .int .i64 t1.int, .string ⟨t1.name.toArray⟩, .slice A1 n1 c1] ∧ Blk V (W.heap.size + 1) 26 #[.int .i64 0, .int .i64 0, .string ⟨#[]⟩, .slice none 0 0]) ⟨below_step (below_alloc _ _) (below_alloc _ _), ((Blk.newAt (by first | (with_reducible rfl) | simp)).alloc _), (Blk.newAt (by first | (with_reducible rfl) | simp))⟩ ?_
  rintro V ⟨hb, hq1, hz⟩
  have HB := Lib.hid hb
  have HKq1 := Lib.hid hq1
  have HKz := Lib.hid hz
  have q10 := HKq1.out.cell 0
  have q11 := HKq1.out.cell 1
  have q12 := HKq1.out.cell 2
  have q13 := HKq1.out.cell 3
  have q1f0 := HKq1.out.frozen 0
  have q1f1 := HKq1.out.frozen 1
  have q1f2 := HKq1.out.frozen 2
  have q1f3 := HKq1.out.frozen 3
  have z0 := HKz.out.cell 0
  have z1 := HKz.out.cell 1
  have z2 := HKz.out.cell 2
  have z3 := HKz.out.cell 3
  have zf0 := HKz.out.frozen 0
  have zf1 := HKz.out.frozen 1
  have zf2 := HKz.out.frozen 2
  have zf3 := HKz.out.frozen 3
  clear hb hq1 hz
  have hb2 := Ihb2.out
  go_wp2_with (go_at_call 77; refine (rtruth_v (fun k => X k ∨ k = W.heap.size + 1) b V).mono ?_; rintro e w1 ⟨v, rfl, hT, hb1⟩; obtain ⟨A9, n9, c9, rfl, hn⟩ := hT.form; have HT := Lib.hid hT; have HKq1 := Lib.hid (HKq1.out.keep hb1); have HKz := Lib.hid (HKz.out.keep hb1); have HB := Lib.hid (below_step HB.out hb1); have q10 := HKq1.out.cell 0; have q11 := HKq1.out.cell 1; have q12 := HKq1.out.cell 2; have q13 := HKq1.out.cell 3; have q1f0 := HKq1.out.frozen 0; have q1f1 := HKq1.out.frozen 1; have q1f2 := HKq1.out.frozen 2; have q1f3 := HKq1.out.frozen 3; have z0 := HKz.out.cell 0; have z1 := HKz.out.cell 1; have z2 := HKz.out.cell 2; have z3 := HKz.out.cell 3; have zf0 := HKz.out.frozen 0; have zf1 := HKz.out.frozen 1; have zf2 := HKz.out.frozen 2; have zf3 := HKz.out.frozen 3; clear hn hT hb1)
  have hB2 := HKz.out.set4 (.int .i64 ((truT b)).kind) (.int .i64 ((truT b)).int) (.string ⟨((truT b)).name.toArray⟩) (.slice A9 n9 c9)
  have y0 := hB2.cell 0
  have y1 := hB2.cell 1
  have y2 := hB2.cell 2
  have y3 := hB2.cell 3
  refine bodyPost_ret (v := .tuple #[.agg #[.int .i64 ((truT b)).kind, .int .i64 ((truT b)).int, .string ⟨((truT b)).name.toArray⟩, .slice A9 n9 c9], .string ⟨(([] : List UInt8)).toArray⟩]) (by simp [results, Tryz.results23, go_sem, y0, y1, y2, y3]) rfl ?_
  obtain ⟨g1, g2⟩ := fin4 (X := X) HB.out (by omega) HT.out
  exact ⟨_, rfl, g1, g2⟩
set_option maxRecDepth 100000 in
set_option maxHeartbeats 1000000 in
theorem rone_is_atom {X : Nat → Prop} (hX : ∀ k, X k → k < W.heap.size) (h1 : TEx X W u1 t1) : Calls Tryz.prog 23 #[.string ⟨#[105, 115, 95, 97, 116, 111, 109]⟩, u1] W (R2 X W (truT (([2] : List Int).contains t1.kind), [])) := by
  obtain ⟨A1, n1, c1, rfl, hn1⟩ := h1.form
  have H1 := Lib.hid h1
  have HN1 := Lib.hid hn1
  have HX := Lib.hid hX
  clear h1 hn1 hX
  obtain ⟨b, hb⟩ : ∃ b, (([2] : List Int).contains t1.kind) = b := ⟨_, rfl⟩
  rw [hb]
  have hb2 : (t1.kind == 2) = b := by rw [← hb]; simp; rfl
  clear hb
  have Ihb2 := Lib.hid hb2
  clear hb2
  go_enter Tryz.func23, Tryz.ntmps23
  go_upto_region 1 with (fail)
  refine wp_world (fun V => Below W.heap.size W V ∧ Blk V (W.heap.size) 26 #[.int .i64 t1.kind, .int .i64 t1.int, .string ⟨t1.name.toArray⟩, .slice A1 n1 c1] ∧ Blk V (W.heap.size + 1) 26 #[.int .i64 0, .int .i64 0, .string ⟨#[]⟩, .slice none 0 0]) ⟨below_step (below_alloc _ _) (below_alloc _ _), ((Blk.newAt (by first | (with_reducible rfl) | simp)).alloc _), (Blk.newAt (by first | (with_reducible rfl) | simp))⟩ ?_
  rintro V ⟨hb, hq1, hz⟩
  have HB := Lib.hid hb
  have HKq1 := Lib.hid hq1
  have HKz := Lib.hid hz
  have q10 := HKq1.out.cell 0
  have q11 := HKq1.out.cell 1
  have q12 := HKq1.out.cell 2
  have q13 := HKq1.out.cell 3
  have q1f0 := HKq1.out.frozen 0
  have q1f1 := HKq1.out.frozen 1
  have q1f2 := HKq1.out.frozen 2
  have q1f3 := HKq1.out.frozen 3
  have z0 := HKz.out.cell 0
  have z1 := HKz.out.cell 1
  have z2 := HKz.out.cell 2
  have z3 := HKz.out.cell 3
  have zf0 := HKz.out.frozen 0
  have zf1 := HKz.out.frozen 1
  have zf2 := HKz.out.frozen 2
  have zf3 := HKz.out.frozen 3
  clear hb hq1 hz
  have hb2 := Ihb2.out
  go_wp2_with (go_at_call 77; refine (rtruth_v (fun k => X k ∨ k = W.heap.size + 1) b V).mono ?_; rintro e w1 ⟨v, rfl, hT, hb1⟩; obtain ⟨A9, n9, c9, rfl, hn⟩ := hT.form; have HT := Lib.hid hT; have HKq1 := Lib.hid (HKq1.out.keep hb1); have HKz := Lib.hid (HKz.out.keep hb1); have HB := Lib.hid (below_step HB.out hb1); have q10 := HKq1.out.cell 0; have q11 := HKq1.out.cell 1; have q12 := HKq1.out.cell 2; have q13 := HKq1.out.cell 3; have q1f0 := HKq1.out.frozen 0; have q1f1 := HKq1.out.frozen 1; have q1f2 := HKq1.out.frozen 2; have q1f3 := HKq1.out.frozen 3; have z0 := HKz.out.cell 0; have z1 := HKz.out.cell 1; have z2 := HKz.out.cell 2; have z3 := HKz.out.cell 3; have zf0 := HKz.out.frozen 0; have zf1 := HKz.out.frozen 1; have zf2 := HKz.out.frozen 2; have zf3 := HKz.out.frozen 3; clear hn hT hb1)
  have hB2 := HKz.out.set4 (.int .i64 ((truT b)).kind) (.int .i64 ((truT b)).int) (.string ⟨((truT b)).name.toArray⟩) (.slice A9 n9 c9)
  have y0 := hB2.cell 0
  have y1 := hB2.cell 1
  have y2 := hB2.cell 2
  have y3 := hB2.cell 3
  refine bodyPost_ret (v := .tuple #[.agg #[.int .i64 ((truT b)).kind, .int .i64 ((truT b)).int, .string ⟨((truT b)).name.toArray⟩, .slice A9 n9 c9], .string ⟨(([] : List UInt8)).toArray⟩]) (by simp [results, Tryz.results23, go_sem, y0, y1, y2, y3]) rfl ?_
  obtain ⟨g1, g2⟩ := fin4 (X := X) HB.out (by omega) HT.out
  exact ⟨_, rfl, g1, g2⟩
set_option maxRecDepth 100000 in
set_option maxHeartbeats 1000000 in
theorem rone_is_pid {X : Nat → Prop} (hX : ∀ k, X k → k < W.heap.size) (h1 : TEx X W u1 t1) : Calls Tryz.prog 23 #[.string ⟨#[105, 115, 95, 112, 105, 100]⟩, u1] W (R2 X W (truT (([5] : List Int).contains t1.kind), [])) := by
  obtain ⟨A1, n1, c1, rfl, hn1⟩ := h1.form
  have H1 := Lib.hid h1
  have HN1 := Lib.hid hn1
  have HX := Lib.hid hX
  clear h1 hn1 hX
  obtain ⟨b, hb⟩ : ∃ b, (([5] : List Int).contains t1.kind) = b := ⟨_, rfl⟩
  rw [hb]
  have hb2 : (t1.kind == 5) = b := by rw [← hb]; simp; rfl
  clear hb
  have Ihb2 := Lib.hid hb2
  clear hb2
  go_enter Tryz.func23, Tryz.ntmps23
  go_upto_region 1 with (fail)
  refine wp_world (fun V => Below W.heap.size W V ∧ Blk V (W.heap.size) 26 #[.int .i64 t1.kind, .int .i64 t1.int, .string ⟨t1.name.toArray⟩, .slice A1 n1 c1] ∧ Blk V (W.heap.size + 1) 26 #[.int .i64 0, .int .i64 0, .string ⟨#[]⟩, .slice none 0 0]) ⟨below_step (below_alloc _ _) (below_alloc _ _), ((Blk.newAt (by first | (with_reducible rfl) | simp)).alloc _), (Blk.newAt (by first | (with_reducible rfl) | simp))⟩ ?_
  rintro V ⟨hb, hq1, hz⟩
  have HB := Lib.hid hb
  have HKq1 := Lib.hid hq1
  have HKz := Lib.hid hz
  have q10 := HKq1.out.cell 0
  have q11 := HKq1.out.cell 1
  have q12 := HKq1.out.cell 2
  have q13 := HKq1.out.cell 3
  have q1f0 := HKq1.out.frozen 0
  have q1f1 := HKq1.out.frozen 1
  have q1f2 := HKq1.out.frozen 2
  have q1f3 := HKq1.out.frozen 3
  have z0 := HKz.out.cell 0
  have z1 := HKz.out.cell 1
  have z2 := HKz.out.cell 2
  have z3 := HKz.out.cell 3
  have zf0 := HKz.out.frozen 0
  have zf1 := HKz.out.frozen 1
  have zf2 := HKz.out.frozen 2
  have zf3 := HKz.out.frozen 3
  clear hb hq1 hz
  have hb2 := Ihb2.out
  go_wp2_with (go_at_call 77; refine (rtruth_v (fun k => X k ∨ k = W.heap.size + 1) b V).mono ?_; rintro e w1 ⟨v, rfl, hT, hb1⟩; obtain ⟨A9, n9, c9, rfl, hn⟩ := hT.form; have HT := Lib.hid hT; have HKq1 := Lib.hid (HKq1.out.keep hb1); have HKz := Lib.hid (HKz.out.keep hb1); have HB := Lib.hid (below_step HB.out hb1); have q10 := HKq1.out.cell 0; have q11 := HKq1.out.cell 1; have q12 := HKq1.out.cell 2; have q13 := HKq1.out.cell 3; have q1f0 := HKq1.out.frozen 0; have q1f1 := HKq1.out.frozen 1; have q1f2 := HKq1.out.frozen 2; have q1f3 := HKq1.out.frozen 3; have z0 := HKz.out.cell 0; have z1 := HKz.out.cell 1; have z2 := HKz.out.cell 2; have z3 := HKz.out.cell 3; have zf0 := HKz.out.frozen 0; have zf1 := HKz.out.frozen 1; have zf2 := HKz.out.frozen 2; have zf3 := HKz.out.frozen 3; clear hn hT hb1)
  have hB2 := HKz.out.set4 (.int .i64 ((truT b)).kind) (.int .i64 ((truT b)).int) (.string ⟨((truT b)).name.toArray⟩) (.slice A9 n9 c9)
  have y0 := hB2.cell 0
  have y1 := hB2.cell 1
  have y2 := hB2.cell 2
  have y3 := hB2.cell 3
  refine bodyPost_ret (v := .tuple #[.agg #[.int .i64 ((truT b)).kind, .int .i64 ((truT b)).int, .string ⟨((truT b)).name.toArray⟩, .slice A9 n9 c9], .string ⟨(([] : List UInt8)).toArray⟩]) (by simp [results, Tryz.results23, go_sem, y0, y1, y2, y3]) rfl ?_
  obtain ⟨g1, g2⟩ := fin4 (X := X) HB.out (by omega) HT.out
  exact ⟨_, rfl, g1, g2⟩
set_option maxRecDepth 100000 in
set_option maxHeartbeats 1000000 in
theorem rone_is_reference {X : Nat → Prop} (hX : ∀ k, X k → k < W.heap.size) (h1 : TEx X W u1 t1) : Calls Tryz.prog 23 #[.string ⟨#[105, 115, 95, 114, 101, 102, 101, 114, 101, 110, 99, 101]⟩, u1] W (R2 X W (truT (([3] : List Int).contains t1.kind), [])) := by
  obtain ⟨A1, n1, c1, rfl, hn1⟩ := h1.form
  have H1 := Lib.hid h1
  have HN1 := Lib.hid hn1
  have HX := Lib.hid hX
  clear h1 hn1 hX
  obtain ⟨b, hb⟩ : ∃ b, (([3] : List Int).contains t1.kind) = b := ⟨_, rfl⟩
  rw [hb]
  have hb2 : (t1.kind == 3) = b := by rw [← hb]; simp; rfl
  clear hb
  have Ihb2 := Lib.hid hb2
  clear hb2
  go_enter Tryz.func23, Tryz.ntmps23
  go_upto_region 1 with (fail)
  refine wp_world (fun V => Below W.heap.size W V ∧ Blk V (W.heap.size) 26 #[.int .i64 t1.kind, .int .i64 t1.int, .string ⟨t1.name.toArray⟩, .slice A1 n1 c1] ∧ Blk V (W.heap.size + 1) 26 #[.int .i64 0, .int .i64 0, .string ⟨#[]⟩, .slice none 0 0]) ⟨below_step (below_alloc _ _) (below_alloc _ _), ((Blk.newAt (by first | (with_reducible rfl) | simp)).alloc _), (Blk.newAt (by first | (with_reducible rfl) | simp))⟩ ?_
  rintro V ⟨hb, hq1, hz⟩
  have HB := Lib.hid hb
  have HKq1 := Lib.hid hq1
  have HKz := Lib.hid hz
  have q10 := HKq1.out.cell 0
  have q11 := HKq1.out.cell 1
  have q12 := HKq1.out.cell 2
  have q13 := HKq1.out.cell 3
  have q1f0 := HKq1.out.frozen 0
  have q1f1 := HKq1.out.frozen 1
  have q1f2 := HKq1.out.frozen 2
  have q1f3 := HKq1.out.frozen 3
  have z0 := HKz.out.cell 0
  have z1 := HKz.out.cell 1
  have z2 := HKz.out.cell 2
  have z3 := HKz.out.cell 3
  have zf0 := HKz.out.frozen 0
  have zf1 := HKz.out.frozen 1
  have zf2 := HKz.out.frozen 2
  have zf3 := HKz.out.frozen 3
  clear hb hq1 hz
  have hb2 := Ihb2.out
  go_wp2_with (go_at_call 77; refine (rtruth_v (fun k => X k ∨ k = W.heap.size + 1) b V).mono ?_; rintro e w1 ⟨v, rfl, hT, hb1⟩; obtain ⟨A9, n9, c9, rfl, hn⟩ := hT.form; have HT := Lib.hid hT; have HKq1 := Lib.hid (HKq1.out.keep hb1); have HKz := Lib.hid (HKz.out.keep hb1); have HB := Lib.hid (below_step HB.out hb1); have q10 := HKq1.out.cell 0; have q11 := HKq1.out.cell 1; have q12 := HKq1.out.cell 2; have q13 := HKq1.out.cell 3; have q1f0 := HKq1.out.frozen 0; have q1f1 := HKq1.out.frozen 1; have q1f2 := HKq1.out.frozen 2; have q1f3 := HKq1.out.frozen 3; have z0 := HKz.out.cell 0; have z1 := HKz.out.cell 1; have z2 := HKz.out.cell 2; have z3 := HKz.out.cell 3; have zf0 := HKz.out.frozen 0; have zf1 := HKz.out.frozen 1; have zf2 := HKz.out.frozen 2; have zf3 := HKz.out.frozen 3; clear hn hT hb1)
  have hB2 := HKz.out.set4 (.int .i64 ((truT b)).kind) (.int .i64 ((truT b)).int) (.string ⟨((truT b)).name.toArray⟩) (.slice A9 n9 c9)
  have y0 := hB2.cell 0
  have y1 := hB2.cell 1
  have y2 := hB2.cell 2
  have y3 := hB2.cell 3
  refine bodyPost_ret (v := .tuple #[.agg #[.int .i64 ((truT b)).kind, .int .i64 ((truT b)).int, .string ⟨((truT b)).name.toArray⟩, .slice A9 n9 c9], .string ⟨(([] : List UInt8)).toArray⟩]) (by simp [results, Tryz.results23, go_sem, y0, y1, y2, y3]) rfl ?_
  obtain ⟨g1, g2⟩ := fin4 (X := X) HB.out (by omega) HT.out
  exact ⟨_, rfl, g1, g2⟩
set_option maxRecDepth 100000 in
set_option maxHeartbeats 1000000 in
theorem rone_is_function {X : Nat → Prop} (hX : ∀ k, X k → k < W.heap.size) (h1 : TEx X W u1 t1) : Calls Tryz.prog 23 #[.string ⟨#[105, 115, 95, 102, 117, 110, 99, 116, 105, 111, 110]⟩, u1] W (R2 X W (truT (([4] : List Int).contains t1.kind), [])) := by
  obtain ⟨A1, n1, c1, rfl, hn1⟩ := h1.form
  have H1 := Lib.hid h1
  have HN1 := Lib.hid hn1
  have HX := Lib.hid hX
  clear h1 hn1 hX
  obtain ⟨b, hb⟩ : ∃ b, (([4] : List Int).contains t1.kind) = b := ⟨_, rfl⟩
  rw [hb]
  have hb2 : (t1.kind == 4) = b := by rw [← hb]; simp; rfl
  clear hb
  have Ihb2 := Lib.hid hb2
  clear hb2
  go_enter Tryz.func23, Tryz.ntmps23
  go_upto_region 1 with (fail)
  refine wp_world (fun V => Below W.heap.size W V ∧ Blk V (W.heap.size) 26 #[.int .i64 t1.kind, .int .i64 t1.int, .string ⟨t1.name.toArray⟩, .slice A1 n1 c1] ∧ Blk V (W.heap.size + 1) 26 #[.int .i64 0, .int .i64 0, .string ⟨#[]⟩, .slice none 0 0]) ⟨below_step (below_alloc _ _) (below_alloc _ _), ((Blk.newAt (by first | (with_reducible rfl) | simp)).alloc _), (Blk.newAt (by first | (with_reducible rfl) | simp))⟩ ?_
  rintro V ⟨hb, hq1, hz⟩
  have HB := Lib.hid hb
  have HKq1 := Lib.hid hq1
  have HKz := Lib.hid hz
  have q10 := HKq1.out.cell 0
  have q11 := HKq1.out.cell 1
  have q12 := HKq1.out.cell 2
  have q13 := HKq1.out.cell 3
  have q1f0 := HKq1.out.frozen 0
  have q1f1 := HKq1.out.frozen 1
  have q1f2 := HKq1.out.frozen 2
  have q1f3 := HKq1.out.frozen 3
  have z0 := HKz.out.cell 0
  have z1 := HKz.out.cell 1
  have z2 := HKz.out.cell 2
  have z3 := HKz.out.cell 3
  have zf0 := HKz.out.frozen 0
  have zf1 := HKz.out.frozen 1
  have zf2 := HKz.out.frozen 2
  have zf3 := HKz.out.frozen 3
  clear hb hq1 hz
  have hb2 := Ihb2.out
  go_wp2_with (go_at_call 77; refine (rtruth_v (fun k => X k ∨ k = W.heap.size + 1) b V).mono ?_; rintro e w1 ⟨v, rfl, hT, hb1⟩; obtain ⟨A9, n9, c9, rfl, hn⟩ := hT.form; have HT := Lib.hid hT; have HKq1 := Lib.hid (HKq1.out.keep hb1); have HKz := Lib.hid (HKz.out.keep hb1); have HB := Lib.hid (below_step HB.out hb1); have q10 := HKq1.out.cell 0; have q11 := HKq1.out.cell 1; have q12 := HKq1.out.cell 2; have q13 := HKq1.out.cell 3; have q1f0 := HKq1.out.frozen 0; have q1f1 := HKq1.out.frozen 1; have q1f2 := HKq1.out.frozen 2; have q1f3 := HKq1.out.frozen 3; have z0 := HKz.out.cell 0; have z1 := HKz.out.cell 1; have z2 := HKz.out.cell 2; have z3 := HKz.out.cell 3; have zf0 := HKz.out.frozen 0; have zf1 := HKz.out.frozen 1; have zf2 := HKz.out.frozen 2; have zf3 := HKz.out.frozen 3; clear hn hT hb1)
  have hB2 := HKz.out.set4 (.int .i64 ((truT b)).kind) (.int .i64 ((truT b)).int) (.string ⟨((truT b)).name.toArray⟩) (.slice A9 n9 c9)
  have y0 := hB2.cell 0
  have y1 := hB2.cell 1
  have y2 := hB2.cell 2
  have y3 := hB2.cell 3
  refine bodyPost_ret (v := .tuple #[.agg #[.int .i64 ((truT b)).kind, .int .i64 ((truT b)).int, .string ⟨((truT b)).name.toArray⟩, .slice A9 n9 c9], .string ⟨(([] : List UInt8)).toArray⟩]) (by simp [results, Tryz.results23, go_sem, y0, y1, y2, y3]) rfl ?_
  obtain ⟨g1, g2⟩ := fin4 (X := X) HB.out (by omega) HT.out
  exact ⟨_, rfl, g1, g2⟩
set_option maxRecDepth 100000 in
set_option maxHeartbeats 1000000 in
theorem rone_is_tuple {X : Nat → Prop} (hX : ∀ k, X k → k < W.heap.size) (h1 : TEx X W u1 t1) : Calls Tryz.prog 23 #[.string ⟨#[105, 115, 95, 116, 117, 112, 108, 101]⟩, u1] W (R2 X W (truT (([6] : List Int).contains t1.kind), [])) := by
  obtain ⟨A1, n1, c1, rfl, hn1⟩ := h1.form
  have H1 := Lib.hid h1
  have HN1 := Lib.hid hn1
  have HX := Lib.hid hX
  clear h1 hn1 hX
  obtain ⟨b, hb⟩ : ∃ b, (([6] : List Int).contains t1.kind) = b := ⟨_, rfl⟩
  rw [hb]
  have hb2 : (t1.kind == 6) = b := by rw [← hb]; simp; rfl
  clear hb
  have Ihb2 := Lib.hid hb2
  clear hb2
  go_enter Tryz.func23, Tryz.ntmps23
  go_upto_region 1 with (fail)
  refine wp_world (fun V => Below W.heap.size W V ∧ Blk V (W.heap.size) 26 #[.int .i64 t1.kind, .int .i64 t1.int, .string ⟨t1.name.toArray⟩, .slice A1 n1 c1] ∧ Blk V (W.heap.size + 1) 26 #[.int .i64 0, .int .i64 0, .string ⟨#[]⟩, .slice none 0 0]) ⟨below_step (below_alloc _ _) (below_alloc _ _), ((Blk.newAt (by first | (with_reducible rfl) | simp)).alloc _), (Blk.newAt (by first | (with_reducible rfl) | simp))⟩ ?_
  rintro V ⟨hb, hq1, hz⟩
  have HB := Lib.hid hb
  have HKq1 := Lib.hid hq1
  have HKz := Lib.hid hz
  have q10 := HKq1.out.cell 0
  have q11 := HKq1.out.cell 1
  have q12 := HKq1.out.cell 2
  have q13 := HKq1.out.cell 3
  have q1f0 := HKq1.out.frozen 0
  have q1f1 := HKq1.out.frozen 1
  have q1f2 := HKq1.out.frozen 2
  have q1f3 := HKq1.out.frozen 3
  have z0 := HKz.out.cell 0
  have z1 := HKz.out.cell 1
  have z2 := HKz.out.cell 2
  have z3 := HKz.out.cell 3
  have zf0 := HKz.out.frozen 0
  have zf1 := HKz.out.frozen 1
  have zf2 := HKz.out.frozen 2
  have zf3 := HKz.out.frozen 3
  clear hb hq1 hz
  have hb2 := Ihb2.out
  go_wp2_with (go_at_call 77; refine (rtruth_v (fun k => X k ∨ k = W.heap.size + 1) b V).mono ?_; rintro e w1 ⟨v, rfl, hT, hb1⟩; obtain ⟨A9, n9, c9, rfl, hn⟩ := hT.form; have HT := Lib.hid hT; have HKq1 := Lib.hid (HKq1.out.keep hb1); have HKz := Lib.hid (HKz.out.keep hb1); have HB := Lib.hid (below_step HB.out hb1); have q10 := HKq1.out.cell 0; have q11 := HKq1.out.cell 1; have q12 := HKq1.out.cell 2; have q13 := HKq1.out.cell 3; have q1f0 := HKq1.out.frozen 0; have q1f1 := HKq1.out.frozen 1; have q1f2 := HKq1.out.frozen 2; have q1f3 := HKq1.out.frozen 3; have z0 := HKz.out.cell 0; have z1 := HKz.out.cell 1; have z2 := HKz.out.cell 2; have z3 := HKz.out.cell 3; have zf0 := HKz.out.frozen 0; have zf1 := HKz.out.frozen 1; have zf2 := HKz.out.frozen 2; have zf3 := HKz.out.frozen 3; clear hn hT hb1)
  have hB2 := HKz.out.set4 (.int .i64 ((truT b)).kind) (.int .i64 ((truT b)).int) (.string ⟨((truT b)).name.toArray⟩) (.slice A9 n9 c9)
  have y0 := hB2.cell 0
  have y1 := hB2.cell 1
  have y2 := hB2.cell 2
  have y3 := hB2.cell 3
  refine bodyPost_ret (v := .tuple #[.agg #[.int .i64 ((truT b)).kind, .int .i64 ((truT b)).int, .string ⟨((truT b)).name.toArray⟩, .slice A9 n9 c9], .string ⟨(([] : List UInt8)).toArray⟩]) (by simp [results, Tryz.results23, go_sem, y0, y1, y2, y3]) rfl ?_
  obtain ⟨g1, g2⟩ := fin4 (X := X) HB.out (by omega) HT.out
  exact ⟨_, rfl, g1, g2⟩
set_option maxRecDepth 100000 in
set_option maxHeartbeats 1000000 in
theorem rone_is_list {X : Nat → Prop} (hX : ∀ k, X k → k < W.heap.size) (h1 : TEx X W u1 t1) : Calls Tryz.prog 23 #[.string ⟨#[105, 115, 95, 108, 105, 115, 116]⟩, u1] W (R2 X W (truT (([7, 8] : List Int).contains t1.kind), [])) := by
  obtain ⟨A1, n1, c1, rfl, hn1⟩ := h1.form
  have H1 := Lib.hid h1
  have HN1 := Lib.hid hn1
  have HX := Lib.hid hX
  clear h1 hn1 hX
  obtain ⟨b, hb⟩ : ∃ b, (([7, 8] : List Int).contains t1.kind) = b := ⟨_, rfl⟩
  rw [hb]
  by_cases k7 : t1.kind = 7
  · obtain rfl : b = true := by rw [← hb, k7]; rfl
    clear hb
    have Ik7 := Lib.hid k7
    clear k7
    go_enter Tryz.func23, Tryz.ntmps23
    go_upto_region 1 with (fail)
    refine wp_world (fun V => Below W.heap.size W V ∧ Blk V (W.heap.size) 26 #[.int .i64 t1.kind, .int .i64 t1.int, .string ⟨t1.name.toArray⟩, .slice A1 n1 c1] ∧ Blk V (W.heap.size + 1) 26 #[.int .i64 0, .int .i64 0, .string ⟨#[]⟩, .slice none 0 0]) ⟨below_step (below_alloc _ _) (below_alloc _ _), ((Blk.newAt (by first | (with_reducible rfl) | simp)).alloc _), (Blk.newAt (by first | (with_reducible rfl) | simp))⟩ ?_
    rintro V ⟨hb, hq1, hz⟩
    have HB := Lib.hid hb
    have HKq1 := Lib.hid hq1
    have HKz := Lib.hid hz
    have q10 := HKq1.out.cell 0
    have q11 := HKq1.out.cell 1
    have q12 := HKq1.out.cell 2
    have q13 := HKq1.out.cell 3
    have q1f0 := HKq1.out.frozen 0
    have q1f1 := HKq1.out.frozen 1
    have q1f2 := HKq1.out.frozen 2
    have q1f3 := HKq1.out.frozen 3
    have z0 := HKz.out.cell 0
    have z1 := HKz.out.cell 1
    have z2 := HKz.out.cell 2
    have z3 := HKz.out.cell 3
    have zf0 := HKz.out.frozen 0
    have zf1 := HKz.out.frozen 1
    have zf2 := HKz.out.frozen 2
    have zf3 := HKz.out.frozen 3
    clear hb hq1 hz
    have k7 := Ik7.out
    go_wp2_with (go_at_call 77; refine (rtruth_v (fun k => X k ∨ k = W.heap.size + 1) true V).mono ?_; rintro e w1 ⟨v, rfl, hT, hb1⟩; obtain ⟨A9, n9, c9, rfl, hn⟩ := hT.form; have HT := Lib.hid hT; have HKq1 := Lib.hid (HKq1.out.keep hb1); have HKz := Lib.hid (HKz.out.keep hb1); have HB := Lib.hid (below_step HB.out hb1); have q10 := HKq1.out.cell 0; have q11 := HKq1.out.cell 1; have q12 := HKq1.out.cell 2; have q13 := HKq1.out.cell 3; have q1f0 := HKq1.out.frozen 0; have q1f1 := HKq1.out.frozen 1; have q1f2 := HKq1.out.frozen 2; have q1f3 := HKq1.out.frozen 3; have z0 := HKz.out.cell 0; have z1 := HKz.out.cell 1; have z2 := HKz.out.cell 2; have z3 := HKz.out.cell 3; have zf0 := HKz.out.frozen 0; have zf1 := HKz.out.frozen 1; have zf2 := HKz.out.frozen 2; have zf3 := HKz.out.frozen 3; clear hn hT hb1)
    have hB2 := HKz.out.set4 (.int .i64 ((truT true)).kind) (.int .i64 ((truT true)).int) (.string ⟨((truT true)).name.toArray⟩) (.slice A9 n9 c9)
    have y0 := hB2.cell 0
    have y1 := hB2.cell 1
    have y2 := hB2.cell 2
    have y3 := hB2.cell 3
    refine bodyPost_ret (v := .tuple #[.agg #[.int .i64 ((truT true)).kind, .int .i64 ((truT true)).int, .string ⟨((truT true)).name.toArray⟩, .slice A9 n9 c9], .string ⟨(([] : List UInt8)).toArray⟩]) (by simp [results, Tryz.results23, go_sem, y0, y1, y2, y3]) rfl ?_
    obtain ⟨g1, g2⟩ := fin4 (X := X) HB.out (by omega) HT.out
    exact ⟨_, rfl, g1, g2⟩
  · have hb2 : (t1.kind == 8) = b := by rw [← hb]; simp [k7]; rfl
    have d7 : (t1.kind == 7) = false := by simpa using k7
    clear hb
    have Ik7 := Lib.hid k7
    have Ihb2 := Lib.hid hb2
    have Id7 := Lib.hid d7
    clear k7 hb2 d7
    go_enter Tryz.func23, Tryz.ntmps23
    go_upto_region 1 with (fail)
    refine wp_world (fun V => Below W.heap.size W V ∧ Blk V (W.heap.size) 26 #[.int .i64 t1.kind, .int .i64 t1.int, .string ⟨t1.name.toArray⟩, .slice A1 n1 c1] ∧ Blk V (W.heap.size + 1) 26 #[.int .i64 0, .int .i64 0, .string ⟨#[]⟩, .slice none 0 0]) ⟨below_step (below_alloc _ _) (below_alloc _ _), ((Blk.newAt (by first | (with_reducible rfl) | simp)).alloc _), (Blk.newAt (by first | (with_reducible rfl) | simp))⟩ ?_
    rintro V ⟨hb, hq1, hz⟩
    have HB := Lib.hid hb
    have HKq1 := Lib.hid hq1
    have HKz := Lib.hid hz
    have q10 := HKq1.out.cell 0
    have q11 := HKq1.out.cell 1
    have q12 := HKq1.out.cell 2
    have q13 := HKq1.out.cell 3
    have q1f0 := HKq1.out.frozen 0
    have q1f1 := HKq1.out.frozen 1
    have q1f2 := HKq1.out.frozen 2
    have q1f3 := HKq1.out.frozen 3
    have z0 := HKz.out.cell 0
    have z1 := HKz.out.cell 1
    have z2 := HKz.out.cell 2
    have z3 := HKz.out.cell 3
    have zf0 := HKz.out.frozen 0
    have zf1 := HKz.out.frozen 1
    have zf2 := HKz.out.frozen 2
    have zf3 := HKz.out.frozen 3
    clear hb hq1 hz
    have hb2 := Ihb2.out
    have d7 := Id7.out
    go_wp2_with (go_at_call 77; refine (rtruth_v (fun k => X k ∨ k = W.heap.size + 1) b V).mono ?_; rintro e w1 ⟨v, rfl, hT, hb1⟩; obtain ⟨A9, n9, c9, rfl, hn⟩ := hT.form; have HT := Lib.hid hT; have HKq1 := Lib.hid (HKq1.out.keep hb1); have HKz := Lib.hid (HKz.out.keep hb1); have HB := Lib.hid (below_step HB.out hb1); have q10 := HKq1.out.cell 0; have q11 := HKq1.out.cell 1; have q12 := HKq1.out.cell 2; have q13 := HKq1.out.cell 3; have q1f0 := HKq1.out.frozen 0; have q1f1 := HKq1.out.frozen 1; have q1f2 := HKq1.out.frozen 2; have q1f3 := HKq1.out.frozen 3; have z0 := HKz.out.cell 0; have z1 := HKz.out.cell 1; have z2 := HKz.out.cell 2; have z3 := HKz.out.cell 3; have zf0 := HKz.out.frozen 0; have zf1 := HKz.out.frozen 1; have zf2 := HKz.out.frozen 2; have zf3 := HKz.out.frozen 3; clear hn hT hb1)
    have hB2 := HKz.out.set4 (.int .i64 ((truT b)).kind) (.int .i64 ((truT b)).int) (.string ⟨((truT b)).name.toArray⟩) (.slice A9 n9 c9)
    have y0 := hB2.cell 0
    have y1 := hB2.cell 1
    have y2 := hB2.cell 2
    have y3 := hB2.cell 3
    refine bodyPost_ret (v := .tuple #[.agg #[.int .i64 ((truT b)).kind, .int .i64 ((truT b)).int, .string ⟨((truT b)).name.toArray⟩, .slice A9 n9 c9], .string ⟨(([] : List UInt8)).toArray⟩]) (by simp [results, Tryz.results23, go_sem, y0, y1, y2, y3]) rfl ?_
    obtain ⟨g1, g2⟩ := fin4 (X := X) HB.out (by omega) HT.out
    exact ⟨_, rfl, g1, g2⟩
set_option maxRecDepth 100000 in
set_option maxHeartbeats 1000000 in
theorem rone_hd {X : Nat → Prop} (hX : ∀ k, X k → k < W.heap.size) (h1 : TEx X W u1 t1) (hc : t1.kind = 8 → t1.items.length = 2) : Calls Tryz.prog 23 #[.string ⟨#[104, 100]⟩, u1] W (R2 X W (if t1.kind = 8 then (t1.items.getD 0 tZ, []) else (tZ, sArg))) := by
  obtain ⟨A1, n1, c1, rfl, hn1⟩ := h1.form
  have H1 := Lib.hid h1
  have HN1 := Lib.hid hn1
  have HX := Lib.hid hX
  clear h1 hn1 hX
  by_cases k1 : t1.kind = 8
  · rw [if_pos k1]
    have hl2 := hc k1
    have hjl : 0 < t1.items.length := by omega
    rw [show t1.items.getD 0 tZ = t1.items[0] by simp [List.getD, hjl]]
    obtain rfl : n1 = 2 := by rw [← HN1.out]; exact hl2
    obtain ⟨ib, io, IA, im, ic, hA, e0, e1, e2, e3, hin, hIT⟩ := (H1.out.up (p := W.heap.size + 1) (Below.refl _ _) (by omega)).items.item hjl
    have HIT := Lib.hid hIT
    have HI0 := Lib.hid e0
    have HI1 := Lib.hid e1
    have HI2 := Lib.hid e2
    have HI3 := Lib.hid e3
    clear e0 e1 e2 e3 hIT hin hl2 hc
    have Ik1 := Lib.hid k1
    have IhA := Lib.hid hA
    clear k1 hA
    go_enter Tryz.func23, Tryz.ntmps23
    go_upto_region 1 with (fail)
    refine wp_world (fun V => Below W.heap.size W V ∧ Blk V (W.heap.size) 26 #[.int .i64 t1.kind, .int .i64 t1.int, .string ⟨t1.name.toArray⟩, .slice A1 2 c1] ∧ Blk V (W.heap.size + 1) 26 #[.int .i64 0, .int .i64 0, .string ⟨#[]⟩, .slice none 0 0]) ⟨below_step (below_alloc _ _) (below_alloc _ _), ((Blk.newAt (by first | (with_reducible rfl) | simp)).alloc _), (Blk.newAt (by first | (with_reducible rfl) | simp))⟩ ?_
    rintro V ⟨hb, hq1, hz⟩
    have HB := Lib.hid hb
    have HKq1 := Lib.hid hq1
    have HKz := Lib.hid hz
    have q10 := HKq1.out.cell 0
    have q11 := HKq1.out.cell 1
    have q12 := HKq1.out.cell 2
    have q13 := HKq1.out.cell 3
    have q1f0 := HKq1.out.frozen 0
    have q1f1 := HKq1.out.frozen 1
    have q1f2 := HKq1.out.frozen 2
    have q1f3 := HKq1.out.frozen 3
    have z0 := HKz.out.cell 0
    have z1 := HKz.out.cell 1
    have z2 := HKz.out.cell 2
    have z3 := HKz.out.cell 3
    have zf0 := HKz.out.frozen 0
    have zf1 := HKz.out.frozen 1
    have zf2 := HKz.out.frozen 2
    have zf3 := HKz.out.frozen 3
    clear hb hq1 hz
    have hlt : ib < W.heap.size := World.block_lt_of_cell? W _ HI0.out
    have i0 := (HB.out.cell (p := ⟨ib, io + 0 * 4, none⟩) hlt).trans HI0.out
    have i1 := (HB.out.cell (p := ⟨ib, io + 0 * 4 + 1, none⟩) hlt).trans HI1.out
    have i2 := (HB.out.cell (p := ⟨ib, io + 0 * 4 + 2, none⟩) hlt).trans HI2.out
    have i3 := (HB.out.cell (p := ⟨ib, io + 0 * 4 + 3, none⟩) hlt).trans HI3.out
    clear hlt
    have k1 := Ik1.out
    have hA := IhA.out
    simp only [show io + 0 * 4 = io from rfl] at i0 i1 i2 i3
    go_wp2
    have HT := Lib.hid (HIT.out.below HB.out)
    have hB2 := HKz.out.set4 (.int .i64 (t1.items[0]).kind) (.int .i64 (t1.items[0]).int) (.string ⟨(t1.items[0]).name.toArray⟩) (.slice IA im ic)
    have y0 := hB2.cell 0
    have y1 := hB2.cell 1
    have y2 := hB2.cell 2
    have y3 := hB2.cell 3
    refine bodyPost_ret (v := .tuple #[.agg #[.int .i64 (t1.items[0]).kind, .int .i64 (t1.items[0]).int, .string ⟨(t1.items[0]).name.toArray⟩, .slice IA im ic], .string ⟨(([] : List UInt8)).toArray⟩]) (by simp [results, Tryz.results23, go_sem, y0, y1, y2, y3]) rfl ?_
    obtain ⟨g1, g2⟩ := fin4 (X := X) HB.out (by omega) HT.out
    exact ⟨_, rfl, g1, g2⟩
  · rw [if_neg k1]
    clear hc
    have Ik1 := Lib.hid k1
    clear k1
    go_enter Tryz.func23, Tryz.ntmps23
    go_upto_region 1 with (fail)
    refine wp_world (fun V => Below W.heap.size W V ∧ Blk V (W.heap.size) 26 #[.int .i64 t1.kind, .int .i64 t1.int, .string ⟨t1.name.toArray⟩, .slice A1 n1 c1] ∧ Blk V (W.heap.size + 1) 26 #[.int .i64 0, .int .i64 0, .string ⟨#[]⟩, .slice none 0 0]) ⟨below_step (below_alloc _ _) (below_alloc _ _), ((Blk.newAt (by first | (with_reducible rfl) | simp)).alloc _), (Blk.newAt (by first | (with_reducible rfl) | simp))⟩ ?_
    rintro V ⟨hb, hq1, hz⟩
    have HB := Lib.hid hb
    have HKq1 := Lib.hid hq1
    have HKz := Lib.hid hz
    have q10 := HKq1.out.cell 0
    have q11 := HKq1.out.cell 1
    have q12 := HKq1.out.cell 2
    have q13 := HKq1.out.cell 3
    have q1f0 := HKq1.out.frozen 0
    have q1f1 := HKq1.out.frozen 1
    have q1f2 := HKq1.out.frozen 2
    have q1f3 := HKq1.out.frozen 3
    have z0 := HKz.out.cell 0
    have z1 := HKz.out.cell 1
    have z2 := HKz.out.cell 2
    have z3 := HKz.out.cell 3
    have zf0 := HKz.out.frozen 0
    have zf1 := HKz.out.frozen 1
    have zf2 := HKz.out.frozen 2
    have zf3 := HKz.out.frozen 3
    clear hb hq1 hz
    have k1 := Ik1.out
    go_wp2
    have hB2 := HKz.out.set4 (.int .i64 0) (.int .i64 0) (.string ⟨#[]⟩) (.slice none 0 0)
    have y0 := hB2.cell 0
    have y1 := hB2.cell 1
    have y2 := hB2.cell 2
    have y3 := hB2.cell 3
    refine bodyPost_ret (v := .tuple #[.agg #[.int .i64 0, .int .i64 0, .string ⟨#[]⟩, .slice none 0 0], .string ⟨(sArg).toArray⟩]) (by simp [results, Tryz.results23, go_sem, y0, y1, y2, y3, sArg]) rfl ?_
    obtain ⟨g1, g2⟩ := fin4 (X := X) (p := W.heap.size + 1) HB.out (by omega) (tex_z _ _)
    exact ⟨_, rfl, g1, g2⟩
set_option maxRecDepth 100000 in
set_option maxHeartbeats 1000000 in
theorem rone_tl {X : Nat → Prop} (hX : ∀ k, X k → k < W.heap.size) (h1 : TEx X W u1 t1) (hc : t1.kind = 8 → t1.items.length = 2) : Calls Tryz.prog 23 #[.string ⟨#[116, 108]⟩, u1] W (R2 X W (if t1.kind = 8 then (t1.items.getD 1 tZ, []) else (tZ, sArg))) := by
  obtain ⟨A1, n1, c1, rfl, hn1⟩ := h1.form
  have H1 := Lib.hid h1
  have HN1 := Lib.hid hn1
  have HX := Lib.hid hX
  clear h1 hn1 hX
  by_cases k1 : t1.kind = 8
  · rw [if_pos k1]
    have hl2 := hc k1
    have hjl : 1 < t1.items.length := by omega
    rw [show t1.items.getD 1 tZ = t1.items[1] by simp [List.getD, hjl]]
    obtain rfl : n1 = 2 := by rw [← HN1.out]; exact hl2
    obtain ⟨ib, io, IA, im, ic, hA, e0, e1, e2, e3, hin, hIT⟩ := (H1.out.up (p := W.heap.size + 1) (Below.refl _ _) (by omega)).items.item hjl
    have HIT := Lib.hid hIT
    have HI0 := Lib.hid e0
    have HI1 := Lib.hid e1
    have HI2 := Lib.hid e2
    have HI3 := Lib.hid e3
    clear e0 e1 e2 e3 hIT hin hl2 hc
    have Ik1 := Lib.hid k1
    have IhA := Lib.hid hA
    clear k1 hA
    go_enter Tryz.func23, Tryz.ntmps23
    go_upto_region 1 with (fail)
    refine wp_world (fun V => Below W.heap.size W V ∧ Blk V (W.heap.size) 26 #[.int .i64 t1.kind, .int .i64 t1.int, .string ⟨t1.name.toArray⟩, .slice A1 2 c1] ∧ Blk V (W.heap.size + 1) 26 #[.int .i64 0, .int .i64 0, .string ⟨#[]⟩, .slice none 0 0]) ⟨below_step (below_alloc _ _) (below_alloc _ _), ((Blk.newAt (by first | (with_reducible rfl) | simp)).alloc _), (Blk.newAt (by first | (with_reducible rfl) | simp))⟩ ?_
    rintro V ⟨hb, hq1, hz⟩
    have HB := Lib.hid hb
    have HKq1 := Lib.hid hq1
    have HKz := Lib.hid hz
    have q10 := HKq1.out.cell 0
    have q11 := HKq1.out.cell 1
    have q12 := HKq1.out.cell 2
    have q13 := HKq1.out.cell 3
    have q1f0 := HKq1.out.frozen 0
    have q1f1 := HKq1.out.frozen 1
    have q1f2 := HKq1.out.frozen 2
    have q1f3 := HKq1.out.frozen 3
    have z0 := HKz.out.cell 0
    have z1 := HKz.out.cell 1
    have z2 := HKz.out.cell 2
    have z3 := HKz.out.cell 3
    have zf0 := HKz.out.frozen 0
    have zf1 := HKz.out.frozen 1
    have zf2 := HKz.out.frozen 2
    have zf3 := HKz.out.frozen 3
    clear hb hq1 hz
    have hlt : ib < W.heap.size := World.block_lt_of_cell? W _ HI0.out
    have i0 := (HB.out.cell (p := ⟨ib, io + 1 * 4, none⟩) hlt).trans HI0.out
    have i1 := (HB.out.cell (p := ⟨ib, io + 1 * 4 + 1, none⟩) hlt).trans HI1.out
    have i2 := (HB.out.cell (p := ⟨ib, io + 1 * 4 + 2, none⟩) hlt).trans HI2.out
    have i3 := (HB.out.cell (p := ⟨ib, io + 1 * 4 + 3, none⟩) hlt).trans HI3.out
    clear hlt
    have k1 := Ik1.out
    have hA := IhA.out
    simp only [show io + 1 * 4 = io + 4 from rfl] at i0 i1 i2 i3
    go_wp2
    have HT := Lib.hid (HIT.out.below HB.out)
    have hB2 := HKz.out.set4 (.int .i64 (t1.items[1]).kind) (.int .i64 (t1.items[1]).int) (.string ⟨(t1.items[1]).name.toArray⟩) (.slice IA im ic)
    have y0 := hB2.cell 0
    have y1 := hB2.cell 1
    have y2 := hB2.cell 2
    have y3 := hB2.cell 3
    refine bodyPost_ret (v := .tuple #[.agg #[.int .i64 (t1.items[1]).kind, .int .i64 (t1.items[1]).int, .string ⟨(t1.items[1]).name.toArray⟩, .slice IA im ic], .string ⟨(([] : List UInt8)).toArray⟩]) (by simp [results, Tryz.results23, go_sem, y0, y1, y2, y3]) rfl ?_
    obtain ⟨g1, g2⟩ := fin4 (X := X) HB.out (by omega) HT.out
    exact ⟨_, rfl, g1, g2⟩
  · rw [if_neg k1]
    clear hc
    have Ik1 := Lib.hid k1
    clear k1
    go_enter Tryz.func23, Tryz.ntmps23
    go_upto_region 1 with (fail)
    refine wp_world (fun V => Below W.heap.size W V ∧ Blk V (W.heap.size) 26 #[.int .i64 t1.kind, .int .i64 t1.int, .string ⟨t1.name.toArray⟩, .slice A1 n1 c1] ∧ Blk V (W.heap.size + 1) 26 #[.int .i64 0, .int .i64 0, .string ⟨#[]⟩, .slice none 0 0]) ⟨below_step (below_alloc _ _) (below_alloc _ _), ((Blk.newAt (by first | (with_reducible rfl) | simp)).alloc _), (Blk.newAt (by first | (with_reducible rfl) | simp))⟩ ?_
    rintro V ⟨hb, hq1, hz⟩
    have HB := Lib.hid hb
    have HKq1 := Lib.hid hq1
    have HKz := Lib.hid hz
    have q10 := HKq1.out.cell 0
    have q11 := HKq1.out.cell 1
    have q12 := HKq1.out.cell 2
    have q13 := HKq1.out.cell 3
    have q1f0 := HKq1.out.frozen 0
    have q1f1 := HKq1.out.frozen 1
    have q1f2 := HKq1.out.frozen 2
    have q1f3 := HKq1.out.frozen 3
    have z0 := HKz.out.cell 0
    have z1 := HKz.out.cell 1
    have z2 := HKz.out.cell 2
    have z3 := HKz.out.cell 3
    have zf0 := HKz.out.frozen 0
    have zf1 := HKz.out.frozen 1
    have zf2 := HKz.out.frozen 2
    have zf3 := HKz.out.frozen 3
    clear hb hq1 hz
    have k1 := Ik1.out
    go_wp2
    have hB2 := HKz.out.set4 (.int .i64 0) (.int .i64 0) (.string ⟨#[]⟩) (.slice none 0 0)
    have y0 := hB2.cell 0
    have y1 := hB2.cell 1
    have y2 := hB2.cell 2
    have y3 := hB2.cell 3
    refine bodyPost_ret (v := .tuple #[.agg #[.int .i64 0, .int .i64 0, .string ⟨#[]⟩, .slice none 0 0], .string ⟨(sArg).toArray⟩]) (by simp [results, Tryz.results23, go_sem, y0, y1, y2, y3, sArg]) rfl ?_
    obtain ⟨g1, g2⟩ := fin4 (X := X) (p := W.heap.size + 1) HB.out (by omega) (tex_z _ _)
    exact ⟨_, rfl, g1, g2⟩
set_option maxRecDepth 100000 in
set_option maxHeartbeats 1000000 in
theorem rone_tuple_size {X : Nat → Prop} (hX : ∀ k, X k → k < W.heap.size) (h1 : TEx X W u1 t1) : Calls Tryz.prog 23 #[.string ⟨#[116, 117, 112, 108, 101, 95, 115, 105, 122, 101]⟩, u1] W (R2 X W (if t1.kind = 6 then (tI (t1.items.length : Nat), []) else (tZ, sArg))) := by
  obtain ⟨A1, n1, c1, rfl, hn1⟩ := h1.form
  have H1 := Lib.hid h1
  have HN1 := Lib.hid hn1
  have HX := Lib.hid hX
  clear h1 hn1 hX
  by_cases k1 : t1.kind = 6
  · rw [if_pos k1]
    rw [show (t1.items.length : Nat) = n1 from HN1.out]
    have Ik1 := Lib.hid k1
    clear k1
    go_enter Tryz.func23, Tryz.ntmps23
    go_upto_region 1 with (fail)
    refine wp_world (fun V => Below W.heap.size W V ∧ Blk V (W.heap.size) 26 #[.int .i64 t1.kind, .int .i64 t1.int, .string ⟨t1.name.toArray⟩, .slice A1 n1 c1] ∧ Blk V (W.heap.size + 1) 26 #[.int .i64 0, .int .i64 0, .string ⟨#[]⟩, .slice none 0 0]) ⟨below_step (below_alloc _ _) (below_alloc _ _), ((Blk.newAt (by first | (with_reducible rfl) | simp)).alloc _), (Blk.newAt (by first | (with_reducible rfl) | simp))⟩ ?_
    rintro V ⟨hb, hq1, hz⟩
    have HB := Lib.hid hb
    have HKq1 := Lib.hid hq1
    have HKz := Lib.hid hz
    have q10 := HKq1.out.cell 0
    have q11 := HKq1.out.cell 1
    have q12 := HKq1.out.cell 2
    have q13 := HKq1.out.cell 3
    have q1f0 := HKq1.out.frozen 0
    have q1f1 := HKq1.out.frozen 1
    have q1f2 := HKq1.out.frozen 2
    have q1f3 := HKq1.out.frozen 3
    have z0 := HKz.out.cell 0
    have z1 := HKz.out.cell 1
    have z2 := HKz.out.cell 2
    have z3 := HKz.out.cell 3
    have zf0 := HKz.out.frozen 0
    have zf1 := HKz.out.frozen 1
    have zf2 := HKz.out.frozen 2
    have zf3 := HKz.out.frozen 3
    clear hb hq1 hz
    have k1 := Ik1.out
    go_wp2_with (go_at_call 11; refine (rint_v (fun k => X k ∨ k = W.heap.size + 1) n1 V).mono ?_; rintro e w1 ⟨v, rfl, hT, hb1⟩; obtain ⟨A9, n9, c9, rfl, hn⟩ := hT.form; have HT := Lib.hid hT; have HKq1 := Lib.hid (HKq1.out.keep hb1); have HKz := Lib.hid (HKz.out.keep hb1); have HB := Lib.hid (below_step HB.out hb1); have q10 := HKq1.out.cell 0; have q11 := HKq1.out.cell 1; have q12 := HKq1.out.cell 2; have q13 := HKq1.out.cell 3; have q1f0 := HKq1.out.frozen 0; have q1f1 := HKq1.out.frozen 1; have q1f2 := HKq1.out.frozen 2; have q1f3 := HKq1.out.frozen 3; have z0 := HKz.out.cell 0; have z1 := HKz.out.cell 1; have z2 := HKz.out.cell 2; have z3 := HKz.out.cell 3; have zf0 := HKz.out.frozen 0; have zf1 := HKz.out.frozen 1; have zf2 := HKz.out.frozen 2; have zf3 := HKz.out.frozen 3; clear hn hT hb1)
    have hB2 := HKz.out.set4 (.int .i64 ((tI (n1 : Nat))).kind) (.int .i64 ((tI (n1 : Nat))).int) (.string ⟨((tI (n1 : Nat))).name.toArray⟩) (.slice A9 n9 c9)
    have y0 := hB2.cell 0
    have y1 := hB2.cell 1
    have y2 := hB2.cell 2
    have y3 := hB2.cell 3
    refine bodyPost_ret (v := .tuple #[.agg #[.int .i64 ((tI (n1 : Nat))).kind, .int .i64 ((tI (n1 : Nat))).int, .string ⟨((tI (n1 : Nat))).name.toArray⟩, .slice A9 n9 c9], .string ⟨(([] : List UInt8)).toArray⟩]) (by simp [results, Tryz.results23, go_sem, y0, y1, y2, y3]) rfl ?_
    obtain ⟨g1, g2⟩ := fin4 (X := X) HB.out (by omega) HT.out
    exact ⟨_, rfl, g1, g2⟩
  · rw [if_neg k1]
    have Ik1 := Lib.hid k1
    clear k1
    go_enter Tryz.func23, Tryz.ntmps23
    go_upto_region 1 with (fail)
    refine wp_world (fun V => Below W.heap.size W V ∧ Blk V (W.heap.size) 26 #[.int .i64 t1.kind, .int .i64 t1.int, .string ⟨t1.name.toArray⟩, .slice A1 n1 c1] ∧ Blk V (W.heap.size + 1) 26 #[.int .i64 0, .int .i64 0, .string ⟨#[]⟩, .slice none 0 0]) ⟨below_step (below_alloc _ _) (below_alloc _ _), ((Blk.newAt (by first | (with_reducible rfl) | simp)).alloc _), (Blk.newAt (by first | (with_reducible rfl) | simp))⟩ ?_
    rintro V ⟨hb, hq1, hz⟩
    have HB := Lib.hid hb
    have HKq1 := Lib.hid hq1
    have HKz := Lib.hid hz
    have q10 := HKq1.out.cell 0
    have q11 := HKq1.out.cell 1
    have q12 := HKq1.out.cell 2
    have q13 := HKq1.out.cell 3
    have q1f0 := HKq1.out.frozen 0
    have q1f1 := HKq1.out.frozen 1
    have q1f2 := HKq1.out.frozen 2
    have q1f3 := HKq1.out.frozen 3
    have z0 := HKz.out.cell 0
    have z1 := HKz.out.cell 1
    have z2 := HKz.out.cell 2
    have z3 := HKz.out.cell 3
    have zf0 := HKz.out.frozen 0
    have zf1 := HKz.out.frozen 1
    have zf2 := HKz.out.frozen 2
    have zf3 := HKz.out.frozen 3
    clear hb hq1 hz
    have k1 := Ik1.out
    go_wp2
    have hB2 := HKz.out.set4 (.int .i64 0) (.int .i64 0) (.string ⟨#[]⟩) (.slice none 0 0)
    have y0 := hB2.cell 0
    have y1 := hB2.cell 1
    have y2 := hB2.cell 2
    have y3 := hB2.cell 3
    refine bodyPost_ret (v := .tuple #[.agg #[.int .i64 0, .int .i64 0, .string ⟨#[]⟩, .slice none 0 0], .string ⟨(sArg).toArray⟩]) (by simp [results, Tryz.results23, go_sem, y0, y1, y2, y3, sArg]) rfl ?_
    obtain ⟨g1, g2⟩ := fin4 (X := X) (p := W.heap.size + 1) HB.out (by omega) (tex_z _ _)
    exact ⟨_, rfl, g1, g2⟩
end
end Go.Proofs.YtbpnlpjbjmojfaaGreat
