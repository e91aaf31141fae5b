/- Arith (layer 14), the document's answer: two, but append. Written by argenrc.py. -/
import Derived.Test.YtbpnlpjbjmojfaaGreatArRb
namespace Go.Proofs.YtbpnlpjbjmojfaaGreat
open Go.RowKit
set_option linter.unusedVariables false
section
variable {W V V' : World} {u u1 u2 : Value} {t t1 t2 : TV}

set_option maxRecDepth 100000 in
set_option maxHeartbeats 1000000 in
theorem rtwo_add {X : Nat → Prop} (hX : ∀ k, X k → k < W.heap.size) (h1 : TEx X W u1 t1) (h2 : TEx X W u2 t2) (hi1 : -1152921504606846976 ≤ t1.int ∧ t1.int ≤ 1152921504606846976) (hi2 : -1152921504606846976 ≤ t2.int ∧ t2.int ≤ 1152921504606846976) : Calls Tryz.prog 24 #[.string ⟨#[43]⟩, u1, u2] W (R2 X W ((if t1.kind = 1 ∧ t2.kind = 1 then numP (t1.int + t2.int) else (tZ, sAri)))) := by
  obtain ⟨A1, n1, c1, rfl, hn1⟩ := h1.form
  have H1 := Lib.hid h1
  have HN1 := Lib.hid hn1
  obtain ⟨A2, n2, c2, rfl, hn2⟩ := h2.form
  have H2 := Lib.hid h2
  have HN2 := Lib.hid hn2
  have HX := Lib.hid hX
  clear h1 hn1 h2 hn2 hX
  have HI1 := Lib.hid hi1
  have HI2 := Lib.hid hi2
  clear hi1 hi2
  obtain ⟨r, hr⟩ : ∃ r, (if t1.kind = 1 ∧ t2.kind = 1 then numP (t1.int + t2.int) else (tZ, sAri)) = r := ⟨_, rfl⟩
  have HR := Lib.hid hr
  rw [hr]
  clear hr
  go_enter Tryz.func24, Tryz.ntmps24
  go_upto_region 1 with (fail)
  refine wp_world (fun V => Below W.heap.size W V ∧ Blk V (W.heap.size) 26 #[.int .i64 t1.kind, .int .i64 t1.int, .string ⟨t1.name.toArray⟩, .slice A1 n1 c1] ∧ Blk V (W.heap.size + 1) 26 #[.int .i64 t2.kind, .int .i64 t2.int, .string ⟨t2.name.toArray⟩, .slice A2 n2 c2] ∧ Blk V (W.heap.size + 1 + 1) 26 #[.int .i64 0, .int .i64 0, .string ⟨#[]⟩, .slice none 0 0]) ⟨below_step (below_step (below_alloc _ _) (below_alloc _ _)) (below_alloc _ _), (((Blk.newAt (by first | (with_reducible rfl) | simp)).alloc _).alloc _), ((Blk.newAt (by first | (with_reducible rfl) | simp)).alloc _), (Blk.newAt (by first | (with_reducible rfl) | simp))⟩ ?_
  rintro V ⟨hb, hq1, hq2, hz⟩
  have HB := Lib.hid hb
  have HKq1 := Lib.hid hq1
  have HKq2 := Lib.hid hq2
  have HKz := Lib.hid hz
  have q10 := HKq1.out.cell 0
  have q11 := HKq1.out.cell 1
  have q12 := HKq1.out.cell 2
  have q13 := HKq1.out.cell 3
  have q1f0 := HKq1.out.frozen 0
  have q1f1 := HKq1.out.frozen 1
  have q1f2 := HKq1.out.frozen 2
  have q1f3 := HKq1.out.frozen 3
  have q20 := HKq2.out.cell 0
  have q21 := HKq2.out.cell 1
  have q22 := HKq2.out.cell 2
  have q23 := HKq2.out.cell 3
  have q2f0 := HKq2.out.frozen 0
  have q2f1 := HKq2.out.frozen 1
  have q2f2 := HKq2.out.frozen 2
  have q2f3 := HKq2.out.frozen 3
  have z0 := HKz.out.cell 0
  have z1 := HKz.out.cell 1
  have z2 := HKz.out.cell 2
  have z3 := HKz.out.cell 3
  have zf0 := HKz.out.frozen 0
  have zf1 := HKz.out.frozen 1
  have zf2 := HKz.out.frozen 2
  have zf3 := HKz.out.frozen 3
  clear hb hq1 hq2 hz
  go_wp2_with (first | (go_at_call 27; refine (rcmp_v (X := (fun k => X k ∨ k = W.heap.size + 1 + 1)) (Y := (fun k => X k ∨ k = W.heap.size + 1 + 1)) (H1.out.up HB.out (by omega)) (H2.out.up HB.out (by omega))).mono ?_; rintro e V ⟨rfl, hb1⟩; have HKq1 := Lib.hid (HKq1.out.keep hb1); have HKq2 := Lib.hid (HKq2.out.keep hb1); have HKz := Lib.hid (HKz.out.keep hb1); have HB := Lib.hid (below_step HB.out hb1); have q10 := HKq1.out.cell 0; have q11 := HKq1.out.cell 1; have q12 := HKq1.out.cell 2; have q13 := HKq1.out.cell 3; have q1f0 := HKq1.out.frozen 0; have q1f1 := HKq1.out.frozen 1; have q1f2 := HKq1.out.frozen 2; have q1f3 := HKq1.out.frozen 3; have q20 := HKq2.out.cell 0; have q21 := HKq2.out.cell 1; have q22 := HKq2.out.cell 2; have q23 := HKq2.out.cell 3; have q2f0 := HKq2.out.frozen 0; have q2f1 := HKq2.out.frozen 1; have q2f2 := HKq2.out.frozen 2; have q2f3 := HKq2.out.frozen 3; have z0 := HKz.out.cell 0; have z1 := HKz.out.cell 1; have z2 := HKz.out.cell 2; have z3 := HKz.out.cell 3; have zf0 := HKz.out.frozen 0; have zf1 := HKz.out.frozen 1; have zf2 := HKz.out.frozen 2; have zf3 := HKz.out.frozen 3; clear hb1) | (go_at_call 81; refine ((HR.out ▸ rnum_add (X := (fun k => X k ∨ k = W.heap.size + 1 + 1)) (W := V) (by rintro k (hk | rfl); exact Nat.lt_of_lt_of_le (HX.out k hk) HB.out.size; exact HKz.out.lt) (H1.out.up HB.out (by omega)) (H2.out.up HB.out (by omega)) HI1.out HI2.out : Calls _ _ _ _ (R2 _ V r))).mono ?_; rintro e w1 ⟨v, rfl, hT, hb1⟩; obtain ⟨A9, n9, c9, rfl, hn⟩ := hT.form; have HT := Lib.hid hT; have HKq1 := Lib.hid (HKq1.out.keep hb1); have HKq2 := Lib.hid (HKq2.out.keep hb1); have HKz := Lib.hid (HKz.out.keep hb1); have HB := Lib.hid (below_step HB.out hb1); have q10 := HKq1.out.cell 0; have q11 := HKq1.out.cell 1; have q12 := HKq1.out.cell 2; have q13 := HKq1.out.cell 3; have q1f0 := HKq1.out.frozen 0; have q1f1 := HKq1.out.frozen 1; have q1f2 := HKq1.out.frozen 2; have q1f3 := HKq1.out.frozen 3; have q20 := HKq2.out.cell 0; have q21 := HKq2.out.cell 1; have q22 := HKq2.out.cell 2; have q23 := HKq2.out.cell 3; have q2f0 := HKq2.out.frozen 0; have q2f1 := HKq2.out.frozen 1; have q2f2 := HKq2.out.frozen 2; have q2f3 := HKq2.out.frozen 3; have z0 := HKz.out.cell 0; have z1 := HKz.out.cell 1; have z2 := HKz.out.cell 2; have z3 := HKz.out.cell 3; have zf0 := HKz.out.frozen 0; have zf1 := HKz.out.frozen 1; have zf2 := HKz.out.frozen 2; have zf3 := HKz.out.frozen 3; clear hn hT hb1))
  have hB2 := HKz.out.set4 (.int .i64 (r.1).kind) (.int .i64 (r.1).int) (.string ⟨(r.1).name.toArray⟩) (.slice A9 n9 c9)
  have y0 := hB2.cell 0
  have y1 := hB2.cell 1
  have y2 := hB2.cell 2
  have y3 := hB2.cell 3
  refine bodyPost_ret (v := .tuple #[.agg #[.int .i64 (r.1).kind, .int .i64 (r.1).int, .string ⟨(r.1).name.toArray⟩, .slice A9 n9 c9], .string ⟨(r.2).toArray⟩]) (by simp [results, Tryz.results24, go_sem, y0, y1, y2, y3]) rfl ?_
  obtain ⟨g1, g2⟩ := fin4 (X := X) HB.out (by omega) HT.out
  exact ⟨_, rfl, g1, g2⟩
set_option maxRecDepth 100000 in
set_option maxHeartbeats 1000000 in
theorem rtwo_sub {X : Nat → Prop} (hX : ∀ k, X k → k < W.heap.size) (h1 : TEx X W u1 t1) (h2 : TEx X W u2 t2) (hi1 : -1152921504606846976 ≤ t1.int ∧ t1.int ≤ 1152921504606846976) (hi2 : -1152921504606846976 ≤ t2.int ∧ t2.int ≤ 1152921504606846976) : Calls Tryz.prog 24 #[.string ⟨#[45]⟩, u1, u2] W (R2 X W ((if t1.kind = 1 ∧ t2.kind = 1 then numP (t1.int - t2.int) else (tZ, sAri)))) := by
  obtain ⟨A1, n1, c1, rfl, hn1⟩ := h1.form
  have H1 := Lib.hid h1
  have HN1 := Lib.hid hn1
  obtain ⟨A2, n2, c2, rfl, hn2⟩ := h2.form
  have H2 := Lib.hid h2
  have HN2 := Lib.hid hn2
  have HX := Lib.hid hX
  clear h1 hn1 h2 hn2 hX
  have HI1 := Lib.hid hi1
  have HI2 := Lib.hid hi2
  clear hi1 hi2
  obtain ⟨r, hr⟩ : ∃ r, (if t1.kind = 1 ∧ t2.kind = 1 then numP (t1.int - t2.int) else (tZ, sAri)) = r := ⟨_, rfl⟩
  have HR := Lib.hid hr
  rw [hr]
  clear hr
  go_enter Tryz.func24, Tryz.ntmps24
  go_upto_region 1 with (fail)
  refine wp_world (fun V => Below W.heap.size W V ∧ Blk V (W.heap.size) 26 #[.int .i64 t1.kind, .int .i64 t1.int, .string ⟨t1.name.toArray⟩, .slice A1 n1 c1] ∧ Blk V (W.heap.size + 1) 26 #[.int .i64 t2.kind, .int .i64 t2.int, .string ⟨t2.name.toArray⟩, .slice A2 n2 c2] ∧ Blk V (W.heap.size + 1 + 1) 26 #[.int .i64 0, .int .i64 0, .string ⟨#[]⟩, .slice none 0 0]) ⟨below_step (below_step (below_alloc _ _) (below_alloc _ _)) (below_alloc _ _), (((Blk.newAt (by first | (with_reducible rfl) | simp)).alloc _).alloc _), ((Blk.newAt (by first | (with_reducible rfl) | simp)).alloc _), (Blk.newAt (by first | (with_reducible rfl) | simp))⟩ ?_
  rintro V ⟨hb, hq1, hq2, hz⟩
  have HB := Lib.hid hb
  have HKq1 := Lib.hid hq1
  have HKq2 := Lib.hid hq2
  have HKz := Lib.hid hz
  have q10 := HKq1.out.cell 0
  have q11 := HKq1.out.cell 1
  have q12 := HKq1.out.cell 2
  have q13 := HKq1.out.cell 3
  have q1f0 := HKq1.out.frozen 0
  have q1f1 := HKq1.out.frozen 1
  have q1f2 := HKq1.out.frozen 2
  have q1f3 := HKq1.out.frozen 3
  have q20 := HKq2.out.cell 0
  have q21 := HKq2.out.cell 1
  have q22 := HKq2.out.cell 2
  have q23 := HKq2.out.cell 3
  have q2f0 := HKq2.out.frozen 0
  have q2f1 := HKq2.out.frozen 1
  have q2f2 := HKq2.out.frozen 2
  have q2f3 := HKq2.out.frozen 3
  have z0 := HKz.out.cell 0
  have z1 := HKz.out.cell 1
  have z2 := HKz.out.cell 2
  have z3 := HKz.out.cell 3
  have zf0 := HKz.out.frozen 0
  have zf1 := HKz.out.frozen 1
  have zf2 := HKz.out.frozen 2
  have zf3 := HKz.out.frozen 3
  clear hb hq1 hq2 hz
  go_wp2_with (first | (go_at_call 27; refine (rcmp_v (X := (fun k => X k ∨ k = W.heap.size + 1 + 1)) (Y := (fun k => X k ∨ k = W.heap.size + 1 + 1)) (H1.out.up HB.out (by omega)) (H2.out.up HB.out (by omega))).mono ?_; rintro e V ⟨rfl, hb1⟩; have HKq1 := Lib.hid (HKq1.out.keep hb1); have HKq2 := Lib.hid (HKq2.out.keep hb1); have HKz := Lib.hid (HKz.out.keep hb1); have HB := Lib.hid (below_step HB.out hb1); have q10 := HKq1.out.cell 0; have q11 := HKq1.out.cell 1; have q12 := HKq1.out.cell 2; have q13 := HKq1.out.cell 3; have q1f0 := HKq1.out.frozen 0; have q1f1 := HKq1.out.frozen 1; have q1f2 := HKq1.out.frozen 2; have q1f3 := HKq1.out.frozen 3; have q20 := HKq2.out.cell 0; have q21 := HKq2.out.cell 1; have q22 := HKq2.out.cell 2; have q23 := HKq2.out.cell 3; have q2f0 := HKq2.out.frozen 0; have q2f1 := HKq2.out.frozen 1; have q2f2 := HKq2.out.frozen 2; have q2f3 := HKq2.out.frozen 3; have z0 := HKz.out.cell 0; have z1 := HKz.out.cell 1; have z2 := HKz.out.cell 2; have z3 := HKz.out.cell 3; have zf0 := HKz.out.frozen 0; have zf1 := HKz.out.frozen 1; have zf2 := HKz.out.frozen 2; have zf3 := HKz.out.frozen 3; clear hb1) | (go_at_call 81; refine ((HR.out ▸ rnum_sub (X := (fun k => X k ∨ k = W.heap.size + 1 + 1)) (W := V) (by rintro k (hk | rfl); exact Nat.lt_of_lt_of_le (HX.out k hk) HB.out.size; exact HKz.out.lt) (H1.out.up HB.out (by omega)) (H2.out.up HB.out (by omega)) HI1.out HI2.out : Calls _ _ _ _ (R2 _ V r))).mono ?_; rintro e w1 ⟨v, rfl, hT, hb1⟩; obtain ⟨A9, n9, c9, rfl, hn⟩ := hT.form; have HT := Lib.hid hT; have HKq1 := Lib.hid (HKq1.out.keep hb1); have HKq2 := Lib.hid (HKq2.out.keep hb1); have HKz := Lib.hid (HKz.out.keep hb1); have HB := Lib.hid (below_step HB.out hb1); have q10 := HKq1.out.cell 0; have q11 := HKq1.out.cell 1; have q12 := HKq1.out.cell 2; have q13 := HKq1.out.cell 3; have q1f0 := HKq1.out.frozen 0; have q1f1 := HKq1.out.frozen 1; have q1f2 := HKq1.out.frozen 2; have q1f3 := HKq1.out.frozen 3; have q20 := HKq2.out.cell 0; have q21 := HKq2.out.cell 1; have q22 := HKq2.out.cell 2; have q23 := HKq2.out.cell 3; have q2f0 := HKq2.out.frozen 0; have q2f1 := HKq2.out.frozen 1; have q2f2 := HKq2.out.frozen 2; have q2f3 := HKq2.out.frozen 3; have z0 := HKz.out.cell 0; have z1 := HKz.out.cell 1; have z2 := HKz.out.cell 2; have z3 := HKz.out.cell 3; have zf0 := HKz.out.frozen 0; have zf1 := HKz.out.frozen 1; have zf2 := HKz.out.frozen 2; have zf3 := HKz.out.frozen 3; clear hn hT hb1))
  have hB2 := HKz.out.set4 (.int .i64 (r.1).kind) (.int .i64 (r.1).int) (.string ⟨(r.1).name.toArray⟩) (.slice A9 n9 c9)
  have y0 := hB2.cell 0
  have y1 := hB2.cell 1
  have y2 := hB2.cell 2
  have y3 := hB2.cell 3
  refine bodyPost_ret (v := .tuple #[.agg #[.int .i64 (r.1).kind, .int .i64 (r.1).int, .string ⟨(r.1).name.toArray⟩, .slice A9 n9 c9], .string ⟨(r.2).toArray⟩]) (by simp [results, Tryz.results24, go_sem, y0, y1, y2, y3]) rfl ?_
  obtain ⟨g1, g2⟩ := fin4 (X := X) HB.out (by omega) HT.out
  exact ⟨_, rfl, g1, g2⟩
set_option maxRecDepth 100000 in
set_option maxHeartbeats 1000000 in
theorem rtwo_mul {X : Nat → Prop} (hX : ∀ k, X k → k < W.heap.size) (h1 : TEx X W u1 t1) (h2 : TEx X W u2 t2) (hi1 : -1152921504606846976 ≤ t1.int ∧ t1.int ≤ 1152921504606846976) (hi2 : -1152921504606846976 ≤ t2.int ∧ t2.int ≤ 1152921504606846976) : Calls Tryz.prog 24 #[.string ⟨#[42]⟩, u1, u2] W (R2 X W ((if t1.kind = 1 ∧ t2.kind = 1 then numP (t1.int * t2.int) else (tZ, sAri)))) := by
  obtain ⟨A1, n1, c1, rfl, hn1⟩ := h1.form
  have H1 := Lib.hid h1
  have HN1 := Lib.hid hn1
  obtain ⟨A2, n2, c2, rfl, hn2⟩ := h2.form
  have H2 := Lib.hid h2
  have HN2 := Lib.hid hn2
  have HX := Lib.hid hX
  clear h1 hn1 h2 hn2 hX
  have HI1 := Lib.hid hi1
  have HI2 := Lib.hid hi2
  clear hi1 hi2
  obtain ⟨r, hr⟩ : ∃ r, (if t1.kind = 1 ∧ t2.kind = 1 then numP (t1.int * t2.int) else (tZ, sAri)) = r := ⟨_, rfl⟩
  have HR := Lib.hid hr
  rw [hr]
  clear hr
  go_enter Tryz.func24, Tryz.ntmps24
  go_upto_region 1 with (fail)
  refine wp_world (fun V => Below W.heap.size W V ∧ Blk V (W.heap.size) 26 #[.int .i64 t1.kind, .int .i64 t1.int, .string ⟨t1.name.toArray⟩, .slice A1 n1 c1] ∧ Blk V (W.heap.size + 1) 26 #[.int .i64 t2.kind, .int .i64 t2.int, .string ⟨t2.name.toArray⟩, .slice A2 n2 c2] ∧ Blk V (W.heap.size + 1 + 1) 26 #[.int .i64 0, .int .i64 0, .string ⟨#[]⟩, .slice none 0 0]) ⟨below_step (below_step (below_alloc _ _) (below_alloc _ _)) (below_alloc _ _), (((Blk.newAt (by first | (with_reducible rfl) | simp)).alloc _).alloc _), ((Blk.newAt (by first | (with_reducible rfl) | simp)).alloc _), (Blk.newAt (by first | (with_reducible rfl) | simp))⟩ ?_
  rintro V ⟨hb, hq1, hq2, hz⟩
  have HB := Lib.hid hb
  have HKq1 := Lib.hid hq1
  have HKq2 := Lib.hid hq2
  have HKz := Lib.hid hz
  have q10 := HKq1.out.cell 0
  have q11 := HKq1.out.cell 1
  have q12 := HKq1.out.cell 2
  have q13 := HKq1.out.cell 3
  have q1f0 := HKq1.out.frozen 0
  have q1f1 := HKq1.out.frozen 1
  have q1f2 := HKq1.out.frozen 2
  have q1f3 := HKq1.out.frozen 3
  have q20 := HKq2.out.cell 0
  have q21 := HKq2.out.cell 1
  have q22 := HKq2.out.cell 2
  have q23 := HKq2.out.cell 3
  have q2f0 := HKq2.out.frozen 0
  have q2f1 := HKq2.out.frozen 1
  have q2f2 := HKq2.out.frozen 2
  have q2f3 := HKq2.out.frozen 3
  have z0 := HKz.out.cell 0
  have z1 := HKz.out.cell 1
  have z2 := HKz.out.cell 2
  have z3 := HKz.out.cell 3
  have zf0 := HKz.out.frozen 0
  have zf1 := HKz.out.frozen 1
  have zf2 := HKz.out.frozen 2
  have zf3 := HKz.out.frozen 3
  clear hb hq1 hq2 hz
  go_wp2_with (first | (go_at_call 27; refine (rcmp_v (X := (fun k => X k ∨ k = W.heap.size + 1 + 1)) (Y := (fun k => X k ∨ k = W.heap.size + 1 + 1)) (H1.out.up HB.out (by omega)) (H2.out.up HB.out (by omega))).mono ?_; rintro e V ⟨rfl, hb1⟩; have HKq1 := Lib.hid (HKq1.out.keep hb1); have HKq2 := Lib.hid (HKq2.out.keep hb1); have HKz := Lib.hid (HKz.out.keep hb1); have HB := Lib.hid (below_step HB.out hb1); have q10 := HKq1.out.cell 0; have q11 := HKq1.out.cell 1; have q12 := HKq1.out.cell 2; have q13 := HKq1.out.cell 3; have q1f0 := HKq1.out.frozen 0; have q1f1 := HKq1.out.frozen 1; have q1f2 := HKq1.out.frozen 2; have q1f3 := HKq1.out.frozen 3; have q20 := HKq2.out.cell 0; have q21 := HKq2.out.cell 1; have q22 := HKq2.out.cell 2; have q23 := HKq2.out.cell 3; have q2f0 := HKq2.out.frozen 0; have q2f1 := HKq2.out.frozen 1; have q2f2 := HKq2.out.frozen 2; have q2f3 := HKq2.out.frozen 3; have z0 := HKz.out.cell 0; have z1 := HKz.out.cell 1; have z2 := HKz.out.cell 2; have z3 := HKz.out.cell 3; have zf0 := HKz.out.frozen 0; have zf1 := HKz.out.frozen 1; have zf2 := HKz.out.frozen 2; have zf3 := HKz.out.frozen 3; clear hb1) | (go_at_call 81; refine ((HR.out ▸ rnum_mul (X := (fun k => X k ∨ k = W.heap.size + 1 + 1)) (W := V) (by rintro k (hk | rfl); exact Nat.lt_of_lt_of_le (HX.out k hk) HB.out.size; exact HKz.out.lt) (H1.out.up HB.out (by omega)) (H2.out.up HB.out (by omega)) HI1.out HI2.out : Calls _ _ _ _ (R2 _ V r))).mono ?_; rintro e w1 ⟨v, rfl, hT, hb1⟩; obtain ⟨A9, n9, c9, rfl, hn⟩ := hT.form; have HT := Lib.hid hT; have HKq1 := Lib.hid (HKq1.out.keep hb1); have HKq2 := Lib.hid (HKq2.out.keep hb1); have HKz := Lib.hid (HKz.out.keep hb1); have HB := Lib.hid (below_step HB.out hb1); have q10 := HKq1.out.cell 0; have q11 := HKq1.out.cell 1; have q12 := HKq1.out.cell 2; have q13 := HKq1.out.cell 3; have q1f0 := HKq1.out.frozen 0; have q1f1 := HKq1.out.frozen 1; have q1f2 := HKq1.out.frozen 2; have q1f3 := HKq1.out.frozen 3; have q20 := HKq2.out.cell 0; have q21 := HKq2.out.cell 1; have q22 := HKq2.out.cell 2; have q23 := HKq2.out.cell 3; have q2f0 := HKq2.out.frozen 0; have q2f1 := HKq2.out.frozen 1; have q2f2 := HKq2.out.frozen 2; have q2f3 := HKq2.out.frozen 3; have z0 := HKz.out.cell 0; have z1 := HKz.out.cell 1; have z2 := HKz.out.cell 2; have z3 := HKz.out.cell 3; have zf0 := HKz.out.frozen 0; have zf1 := HKz.out.frozen 1; have zf2 := HKz.out.frozen 2; have zf3 := HKz.out.frozen 3; clear hn hT hb1))
  have hB2 := HKz.out.set4 (.int .i64 (r.1).kind) (.int .i64 (r.1).int) (.string ⟨(r.1).name.toArray⟩) (.slice A9 n9 c9)
  have y0 := hB2.cell 0
  have y1 := hB2.cell 1
  have y2 := hB2.cell 2
  have y3 := hB2.cell 3
  refine bodyPost_ret (v := .tuple #[.agg #[.int .i64 (r.1).kind, .int .i64 (r.1).int, .string ⟨(r.1).name.toArray⟩, .slice A9 n9 c9], .string ⟨(r.2).toArray⟩]) (by simp [results, Tryz.results24, go_sem, y0, y1, y2, y3]) rfl ?_
  obtain ⟨g1, g2⟩ := fin4 (X := X) HB.out (by omega) HT.out
  exact ⟨_, rfl, g1, g2⟩
set_option maxRecDepth 100000 in
set_option maxHeartbeats 1000000 in
theorem rtwo_div {X : Nat → Prop} (hX : ∀ k, X k → k < W.heap.size) (h1 : TEx X W u1 t1) (h2 : TEx X W u2 t2) (hi1 : -1152921504606846976 ≤ t1.int ∧ t1.int ≤ 1152921504606846976) (hi2 : -1152921504606846976 ≤ t2.int ∧ t2.int ≤ 1152921504606846976) : Calls Tryz.prog 24 #[.string ⟨#[100, 105, 118]⟩, u1, u2] W (R2 X W ((if t1.kind = 1 ∧ t2.kind = 1 then (if t2.int = 0 then (tZ, sAri) else numP (t1.int.tdiv t2.int)) else (tZ, sAri)))) := by
  obtain ⟨A1, n1, c1, rfl, hn1⟩ := h1.form
  have H1 := Lib.hid h1
  have HN1 := Lib.hid hn1
  obtain ⟨A2, n2, c2, rfl, hn2⟩ := h2.form
  have H2 := Lib.hid h2
  have HN2 := Lib.hid hn2
  have HX := Lib.hid hX
  clear h1 hn1 h2 hn2 hX
  have HI1 := Lib.hid hi1
  have HI2 := Lib.hid hi2
  clear hi1 hi2
  obtain ⟨r, hr⟩ : ∃ r, (if t1.kind = 1 ∧ t2.kind = 1 then (if t2.int = 0 then (tZ, sAri) else numP (t1.int.tdiv t2.int)) else (tZ, sAri)) = r := ⟨_, rfl⟩
  have HR := Lib.hid hr
  rw [hr]
  clear hr
  go_enter Tryz.func24, Tryz.ntmps24
  go_upto_region 1 with (fail)
  refine wp_world (fun V => Below W.heap.size W V ∧ Blk V (W.heap.size) 26 #[.int .i64 t1.kind, .int .i64 t1.int, .string ⟨t1.name.toArray⟩, .slice A1 n1 c1] ∧ Blk V (W.heap.size + 1) 26 #[.int .i64 t2.kind, .int .i64 t2.int, .string ⟨t2.name.toArray⟩, .slice A2 n2 c2] ∧ Blk V (W.heap.size + 1 + 1) 26 #[.int .i64 0, .int .i64 0, .string ⟨#[]⟩, .slice none 0 0]) ⟨below_step (below_step (below_alloc _ _) (below_alloc _ _)) (below_alloc _ _), (((Blk.newAt (by first | (with_reducible rfl) | simp)).alloc _).alloc _), ((Blk.newAt (by first | (with_reducible rfl) | simp)).alloc _), (Blk.newAt (by first | (with_reducible rfl) | simp))⟩ ?_
  rintro V ⟨hb, hq1, hq2, hz⟩
  have HB := Lib.hid hb
  have HKq1 := Lib.hid hq1
  have HKq2 := Lib.hid hq2
  have HKz := Lib.hid hz
  have q10 := HKq1.out.cell 0
  have q11 := HKq1.out.cell 1
  have q12 := HKq1.out.cell 2
  have q13 := HKq1.out.cell 3
  have q1f0 := HKq1.out.frozen 0
  have q1f1 := HKq1.out.frozen 1
  have q1f2 := HKq1.out.frozen 2
  have q1f3 := HKq1.out.frozen 3
  have q20 := HKq2.out.cell 0
  have q21 := HKq2.out.cell 1
  have q22 := HKq2.out.cell 2
  have q23 := HKq2.out.cell 3
  have q2f0 := HKq2.out.frozen 0
  have q2f1 := HKq2.out.frozen 1
  have q2f2 := HKq2.out.frozen 2
  have q2f3 := HKq2.out.frozen 3
  have z0 := HKz.out.cell 0
  have z1 := HKz.out.cell 1
  have z2 := HKz.out.cell 2
  have z3 := HKz.out.cell 3
  have zf0 := HKz.out.frozen 0
  have zf1 := HKz.out.frozen 1
  have zf2 := HKz.out.frozen 2
  have zf3 := HKz.out.frozen 3
  clear hb hq1 hq2 hz
  go_wp2_with (first | (go_at_call 27; refine (rcmp_v (X := (fun k => X k ∨ k = W.heap.size + 1 + 1)) (Y := (fun k => X k ∨ k = W.heap.size + 1 + 1)) (H1.out.up HB.out (by omega)) (H2.out.up HB.out (by omega))).mono ?_; rintro e V ⟨rfl, hb1⟩; have HKq1 := Lib.hid (HKq1.out.keep hb1); have HKq2 := Lib.hid (HKq2.out.keep hb1); have HKz := Lib.hid (HKz.out.keep hb1); have HB := Lib.hid (below_step HB.out hb1); have q10 := HKq1.out.cell 0; have q11 := HKq1.out.cell 1; have q12 := HKq1.out.cell 2; have q13 := HKq1.out.cell 3; have q1f0 := HKq1.out.frozen 0; have q1f1 := HKq1.out.frozen 1; have q1f2 := HKq1.out.frozen 2; have q1f3 := HKq1.out.frozen 3; have q20 := HKq2.out.cell 0; have q21 := HKq2.out.cell 1; have q22 := HKq2.out.cell 2; have q23 := HKq2.out.cell 3; have q2f0 := HKq2.out.frozen 0; have q2f1 := HKq2.out.frozen 1; have q2f2 := HKq2.out.frozen 2; have q2f3 := HKq2.out.frozen 3; have z0 := HKz.out.cell 0; have z1 := HKz.out.cell 1; have z2 := HKz.out.cell 2; have z3 := HKz.out.cell 3; have zf0 := HKz.out.frozen 0; have zf1 := HKz.out.frozen 1; have zf2 := HKz.out.frozen 2; have zf3 := HKz.out.frozen 3; clear hb1) | (go_at_call 81; refine ((HR.out ▸ rnum_div (X := (fun k => X k ∨ k = W.heap.size + 1 + 1)) (W := V) (by rintro k (hk | rfl); exact Nat.lt_of_lt_of_le (HX.out k hk) HB.out.size; exact HKz.out.lt) (H1.out.up HB.out (by omega)) (H2.out.up HB.out (by omega)) HI1.out HI2.out : Calls _ _ _ _ (R2 _ V r))).mono ?_; rintro e w1 ⟨v, rfl, hT, hb1⟩; obtain ⟨A9, n9, c9, rfl, hn⟩ := hT.form; have HT := Lib.hid hT; have HKq1 := Lib.hid (HKq1.out.keep hb1); have HKq2 := Lib.hid (HKq2.out.keep hb1); have HKz := Lib.hid (HKz.out.keep hb1); have HB := Lib.hid (below_step HB.out hb1); have q10 := HKq1.out.cell 0; have q11 := HKq1.out.cell 1; have q12 := HKq1.out.cell 2; have q13 := HKq1.out.cell 3; have q1f0 := HKq1.out.frozen 0; have q1f1 := HKq1.out.frozen 1; have q1f2 := HKq1.out.frozen 2; have q1f3 := HKq1.out.frozen 3; have q20 := HKq2.out.cell 0; have q21 := HKq2.out.cell 1; have q22 := HKq2.out.cell 2; have q23 := HKq2.out.cell 3; have q2f0 := HKq2.out.frozen 0; have q2f1 := HKq2.out.frozen 1; have q2f2 := HKq2.out.frozen 2; have q2f3 := HKq2.out.frozen 3; have z0 := HKz.out.cell 0; have z1 := HKz.out.cell 1; have z2 := HKz.out.cell 2; have z3 := HKz.out.cell 3; have zf0 := HKz.out.frozen 0; have zf1 := HKz.out.frozen 1; have zf2 := HKz.out.frozen 2; have zf3 := HKz.out.frozen 3; clear hn hT hb1))
  have hB2 := HKz.out.set4 (.int .i64 (r.1).kind) (.int .i64 (r.1).int) (.string ⟨(r.1).name.toArray⟩) (.slice A9 n9 c9)
  have y0 := hB2.cell 0
  have y1 := hB2.cell 1
  have y2 := hB2.cell 2
  have y3 := hB2.cell 3
  refine bodyPost_ret (v := .tuple #[.agg #[.int .i64 (r.1).kind, .int .i64 (r.1).int, .string ⟨(r.1).name.toArray⟩, .slice A9 n9 c9], .string ⟨(r.2).toArray⟩]) (by simp [results, Tryz.results24, go_sem, y0, y1, y2, y3]) rfl ?_
  obtain ⟨g1, g2⟩ := fin4 (X := X) HB.out (by omega) HT.out
  exact ⟨_, rfl, g1, g2⟩
set_option maxRecDepth 100000 in
set_option maxHeartbeats 1000000 in
theorem rtwo_rem {X : Nat → Prop} (hX : ∀ k, X k → k < W.heap.size) (h1 : TEx X W u1 t1) (h2 : TEx X W u2 t2) (hi1 : -1152921504606846976 ≤ t1.int ∧ t1.int ≤ 1152921504606846976) (hi2 : -1152921504606846976 ≤ t2.int ∧ t2.int ≤ 1152921504606846976) : Calls Tryz.prog 24 #[.string ⟨#[114, 101, 109]⟩, u1, u2] W (R2 X W ((if t1.kind = 1 ∧ t2.kind = 1 then (if t2.int = 0 then (tZ, sAri) else numP (t1.int.tmod t2.int)) else (tZ, sAri)))) := by
  obtain ⟨A1, n1, c1, rfl, hn1⟩ := h1.form
  have H1 := Lib.hid h1
  have HN1 := Lib.hid hn1
  obtain ⟨A2, n2, c2, rfl, hn2⟩ := h2.form
  have H2 := Lib.hid h2
  have HN2 := Lib.hid hn2
  have HX := Lib.hid hX
  clear h1 hn1 h2 hn2 hX
  have HI1 := Lib.hid hi1
  have HI2 := Lib.hid hi2
  clear hi1 hi2
  obtain ⟨r, hr⟩ : ∃ r, (if t1.kind = 1 ∧ t2.kind = 1 then (if t2.int = 0 then (tZ, sAri) else numP (t1.int.tmod t2.int)) else (tZ, sAri)) = r := ⟨_, rfl⟩
  have HR := Lib.hid hr
  rw [hr]
  clear hr
  go_enter Tryz.func24, Tryz.ntmps24
  go_upto_region 1 with (fail)
  refine wp_world (fun V => Below W.heap.size W V ∧ Blk V (W.heap.size) 26 #[.int .i64 t1.kind, .int .i64 t1.int, .string ⟨t1.name.toArray⟩, .slice A1 n1 c1] ∧ Blk V (W.heap.size + 1) 26 #[.int .i64 t2.kind, .int .i64 t2.int, .string ⟨t2.name.toArray⟩, .slice A2 n2 c2] ∧ Blk V (W.heap.size + 1 + 1) 26 #[.int .i64 0, .int .i64 0, .string ⟨#[]⟩, .slice none 0 0]) ⟨below_step (below_step (below_alloc _ _) (below_alloc _ _)) (below_alloc _ _), (((Blk.newAt (by first | (with_reducible rfl) | simp)).alloc _).alloc _), ((Blk.newAt (by first | (with_reducible rfl) | simp)).alloc _), (Blk.newAt (by first | (with_reducible rfl) | simp))⟩ ?_
  rintro V ⟨hb, hq1, hq2, hz⟩
  have HB := Lib.hid hb
  have HKq1 := Lib.hid hq1
  have HKq2 := Lib.hid hq2
  have HKz := Lib.hid hz
  have q10 := HKq1.out.cell 0
  have q11 := HKq1.out.cell 1
  have q12 := HKq1.out.cell 2
  have q13 := HKq1.out.cell 3
  have q1f0 := HKq1.out.frozen 0
  have q1f1 := HKq1.out.frozen 1
  have q1f2 := HKq1.out.frozen 2
  have q1f3 := HKq1.out.frozen 3
  have q20 := HKq2.out.cell 0
  have q21 := HKq2.out.cell 1
  have q22 := HKq2.out.cell 2
  have q23 := HKq2.out.cell 3
  have q2f0 := HKq2.out.frozen 0
  have q2f1 := HKq2.out.frozen 1
  have q2f2 := HKq2.out.frozen 2
  have q2f3 := HKq2.out.frozen 3
  have z0 := HKz.out.cell 0
  have z1 := HKz.out.cell 1
  have z2 := HKz.out.cell 2
  have z3 := HKz.out.cell 3
  have zf0 := HKz.out.frozen 0
  have zf1 := HKz.out.frozen 1
  have zf2 := HKz.out.frozen 2
  have zf3 := HKz.out.frozen 3
  clear hb hq1 hq2 hz
  go_wp2_with (first | (go_at_call 27; refine (rcmp_v (X := (fun k => X k ∨ k = W.heap.size + 1 + 1)) (Y := (fun k => X k ∨ k = W.heap.size + 1 + 1)) (H1.out.up HB.out (by omega)) (H2.out.up HB.out (by omega))).mono ?_; rintro e V ⟨rfl, hb1⟩; have HKq1 := Lib.hid (HKq1.out.keep hb1); have HKq2 := Lib.hid (HKq2.out.keep hb1); have HKz := Lib.hid (HKz.out.keep hb1); have HB := Lib.hid (below_step HB.out hb1); have q10 := HKq1.out.cell 0; have q11 := HKq1.out.cell 1; have q12 := HKq1.out.cell 2; have q13 := HKq1.out.cell 3; have q1f0 := HKq1.out.frozen 0; have q1f1 := HKq1.out.frozen 1; have q1f2 := HKq1.out.frozen 2; have q1f3 := HKq1.out.frozen 3; have q20 := HKq2.out.cell 0; have q21 := HKq2.out.cell 1; have q22 := HKq2.out.cell 2; have q23 := HKq2.out.cell 3; have q2f0 := HKq2.out.frozen 0; have q2f1 := HKq2.out.frozen 1; have q2f2 := HKq2.out.frozen 2; have q2f3 := HKq2.out.frozen 3; have z0 := HKz.out.cell 0; have z1 := HKz.out.cell 1; have z2 := HKz.out.cell 2; have z3 := HKz.out.cell 3; have zf0 := HKz.out.frozen 0; have zf1 := HKz.out.frozen 1; have zf2 := HKz.out.frozen 2; have zf3 := HKz.out.frozen 3; clear hb1) | (go_at_call 81; refine ((HR.out ▸ rnum_rem (X := (fun k => X k ∨ k = W.heap.size + 1 + 1)) (W := V) (by rintro k (hk | rfl); exact Nat.lt_of_lt_of_le (HX.out k hk) HB.out.size; exact HKz.out.lt) (H1.out.up HB.out (by omega)) (H2.out.up HB.out (by omega)) HI1.out HI2.out : Calls _ _ _ _ (R2 _ V r))).mono ?_; rintro e w1 ⟨v, rfl, hT, hb1⟩; obtain ⟨A9, n9, c9, rfl, hn⟩ := hT.form; have HT := Lib.hid hT; have HKq1 := Lib.hid (HKq1.out.keep hb1); have HKq2 := Lib.hid (HKq2.out.keep hb1); have HKz := Lib.hid (HKz.out.keep hb1); have HB := Lib.hid (below_step HB.out hb1); have q10 := HKq1.out.cell 0; have q11 := HKq1.out.cell 1; have q12 := HKq1.out.cell 2; have q13 := HKq1.out.cell 3; have q1f0 := HKq1.out.frozen 0; have q1f1 := HKq1.out.frozen 1; have q1f2 := HKq1.out.frozen 2; have q1f3 := HKq1.out.frozen 3; have q20 := HKq2.out.cell 0; have q21 := HKq2.out.cell 1; have q22 := HKq2.out.cell 2; have q23 := HKq2.out.cell 3; have q2f0 := HKq2.out.frozen 0; have q2f1 := HKq2.out.frozen 1; have q2f2 := HKq2.out.frozen 2; have q2f3 := HKq2.out.frozen 3; have z0 := HKz.out.cell 0; have z1 := HKz.out.cell 1; have z2 := HKz.out.cell 2; have z3 := HKz.out.cell 3; have zf0 := HKz.out.frozen 0; have zf1 := HKz.out.frozen 1; have zf2 := HKz.out.frozen 2; have zf3 := HKz.out.frozen 3; clear hn hT hb1))
  have hB2 := HKz.out.set4 (.int .i64 (r.1).kind) (.int .i64 (r.1).int) (.string ⟨(r.1).name.toArray⟩) (.slice A9 n9 c9)
  have y0 := hB2.cell 0
  have y1 := hB2.cell 1
  have y2 := hB2.cell 2
  have y3 := hB2.cell 3
  refine bodyPost_ret (v := .tuple #[.agg #[.int .i64 (r.1).kind, .int .i64 (r.1).int, .string ⟨(r.1).name.toArray⟩, .slice A9 n9 c9], .string ⟨(r.2).toArray⟩]) (by simp [results, Tryz.results24, go_sem, y0, y1, y2, y3]) rfl ?_
  obtain ⟨g1, g2⟩ := fin4 (X := X) HB.out (by omega) HT.out
  exact ⟨_, rfl, g1, g2⟩
set_option maxRecDepth 100000 in
set_option maxHeartbeats 1000000 in
theorem rtwo_eq {X : Nat → Prop} (hX : ∀ k, X k → k < W.heap.size) (h1 : TEx X W u1 t1) (h2 : TEx X W u2 t2) : Calls Tryz.prog 24 #[.string ⟨#[61, 61]⟩, u1, u2] W (R2 X W ((truT (t1.cmp t2 == 0), []))) := by
  obtain ⟨A1, n1, c1, rfl, hn1⟩ := h1.form
  have H1 := Lib.hid h1
  have HN1 := Lib.hid hn1
  obtain ⟨A2, n2, c2, rfl, hn2⟩ := h2.form
  have H2 := Lib.hid h2
  have HN2 := Lib.hid hn2
  have HX := Lib.hid hX
  clear h1 hn1 h2 hn2 hX
  obtain ⟨b, hb⟩ : ∃ b, (t1.cmp t2 == 0) = b := ⟨_, rfl⟩
  rw [hb]
  have HBB := Lib.hid hb
  clear hb
  go_enter Tryz.func24, Tryz.ntmps24
  go_upto_region 1 with (fail)
  refine wp_world (fun V => Below W.heap.size W V ∧ Blk V (W.heap.size) 26 #[.int .i64 t1.kind, .int .i64 t1.int, .string ⟨t1.name.toArray⟩, .slice A1 n1 c1] ∧ Blk V (W.heap.size + 1) 26 #[.int .i64 t2.kind, .int .i64 t2.int, .string ⟨t2.name.toArray⟩, .slice A2 n2 c2] ∧ Blk V (W.heap.size + 1 + 1) 26 #[.int .i64 0, .int .i64 0, .string ⟨#[]⟩, .slice none 0 0]) ⟨below_step (below_step (below_alloc _ _) (below_alloc _ _)) (below_alloc _ _), (((Blk.newAt (by first | (with_reducible rfl) | simp)).alloc _).alloc _), ((Blk.newAt (by first | (with_reducible rfl) | simp)).alloc _), (Blk.newAt (by first | (with_reducible rfl) | simp))⟩ ?_
  rintro V ⟨hb, hq1, hq2, hz⟩
  have HB := Lib.hid hb
  have HKq1 := Lib.hid hq1
  have HKq2 := Lib.hid hq2
  have HKz := Lib.hid hz
  have q10 := HKq1.out.cell 0
  have q11 := HKq1.out.cell 1
  have q12 := HKq1.out.cell 2
  have q13 := HKq1.out.cell 3
  have q1f0 := HKq1.out.frozen 0
  have q1f1 := HKq1.out.frozen 1
  have q1f2 := HKq1.out.frozen 2
  have q1f3 := HKq1.out.frozen 3
  have q20 := HKq2.out.cell 0
  have q21 := HKq2.out.cell 1
  have q22 := HKq2.out.cell 2
  have q23 := HKq2.out.cell 3
  have q2f0 := HKq2.out.frozen 0
  have q2f1 := HKq2.out.frozen 1
  have q2f2 := HKq2.out.frozen 2
  have q2f3 := HKq2.out.frozen 3
  have z0 := HKz.out.cell 0
  have z1 := HKz.out.cell 1
  have z2 := HKz.out.cell 2
  have z3 := HKz.out.cell 3
  have zf0 := HKz.out.frozen 0
  have zf1 := HKz.out.frozen 1
  have zf2 := HKz.out.frozen 2
  have zf3 := HKz.out.frozen 3
  clear hb hq1 hq2 hz
  have hb := HBB.out
  go_wp2_with (first | (go_at_call 27; refine (rcmp_v (X := (fun k => X k ∨ k = W.heap.size + 1 + 1)) (Y := (fun k => X k ∨ k = W.heap.size + 1 + 1)) (H1.out.up HB.out (by omega)) (H2.out.up HB.out (by omega))).mono ?_; rintro e V ⟨rfl, hb1⟩; have HKq1 := Lib.hid (HKq1.out.keep hb1); have HKq2 := Lib.hid (HKq2.out.keep hb1); have HKz := Lib.hid (HKz.out.keep hb1); have HB := Lib.hid (below_step HB.out hb1); have q10 := HKq1.out.cell 0; have q11 := HKq1.out.cell 1; have q12 := HKq1.out.cell 2; have q13 := HKq1.out.cell 3; have q1f0 := HKq1.out.frozen 0; have q1f1 := HKq1.out.frozen 1; have q1f2 := HKq1.out.frozen 2; have q1f3 := HKq1.out.frozen 3; have q20 := HKq2.out.cell 0; have q21 := HKq2.out.cell 1; have q22 := HKq2.out.cell 2; have q23 := HKq2.out.cell 3; have q2f0 := HKq2.out.frozen 0; have q2f1 := HKq2.out.frozen 1; have q2f2 := HKq2.out.frozen 2; have q2f3 := HKq2.out.frozen 3; have z0 := HKz.out.cell 0; have z1 := HKz.out.cell 1; have z2 := HKz.out.cell 2; have z3 := HKz.out.cell 3; have zf0 := HKz.out.frozen 0; have zf1 := HKz.out.frozen 1; have zf2 := HKz.out.frozen 2; have zf3 := HKz.out.frozen 3; clear hb1) | (go_at_call 77; refine (rtruth_v (fun k => X k ∨ k = W.heap.size + 1 + 1) b V).mono ?_; rintro e w1 ⟨v, rfl, hT, hb1⟩; obtain ⟨A9, n9, c9, rfl, hn⟩ := hT.form; have HT := Lib.hid hT; have HKq1 := Lib.hid (HKq1.out.keep hb1); have HKq2 := Lib.hid (HKq2.out.keep hb1); have HKz := Lib.hid (HKz.out.keep hb1); have HB := Lib.hid (below_step HB.out hb1); have q10 := HKq1.out.cell 0; have q11 := HKq1.out.cell 1; have q12 := HKq1.out.cell 2; have q13 := HKq1.out.cell 3; have q1f0 := HKq1.out.frozen 0; have q1f1 := HKq1.out.frozen 1; have q1f2 := HKq1.out.frozen 2; have q1f3 := HKq1.out.frozen 3; have q20 := HKq2.out.cell 0; have q21 := HKq2.out.cell 1; have q22 := HKq2.out.cell 2; have q23 := HKq2.out.cell 3; have q2f0 := HKq2.out.frozen 0; have q2f1 := HKq2.out.frozen 1; have q2f2 := HKq2.out.frozen 2; have q2f3 := HKq2.out.frozen 3; have z0 := HKz.out.cell 0; have z1 := HKz.out.cell 1; have z2 := HKz.out.cell 2; have z3 := HKz.out.cell 3; have zf0 := HKz.out.frozen 0; have zf1 := HKz.out.frozen 1; have zf2 := HKz.out.frozen 2; have zf3 := HKz.out.frozen 3; clear hn hT hb1))
  have hB2 := HKz.out.set4 (.int .i64 ((truT b)).kind) (.int .i64 ((truT b)).int) (.string ⟨((truT b)).name.toArray⟩) (.slice A9 n9 c9)
  have y0 := hB2.cell 0
  have y1 := hB2.cell 1
  have y2 := hB2.cell 2
  have y3 := hB2.cell 3
  refine bodyPost_ret (v := .tuple #[.agg #[.int .i64 ((truT b)).kind, .int .i64 ((truT b)).int, .string ⟨((truT b)).name.toArray⟩, .slice A9 n9 c9], .string ⟨(([] : List UInt8)).toArray⟩]) (by simp [results, Tryz.results24, go_sem, y0, y1, y2, y3]) rfl ?_
  obtain ⟨g1, g2⟩ := fin4 (X := X) HB.out (by omega) HT.out
  exact ⟨_, rfl, g1, g2⟩
set_option maxRecDepth 100000 in
set_option maxHeartbeats 1000000 in
theorem rtwo_ne {X : Nat → Prop} (hX : ∀ k, X k → k < W.heap.size) (h1 : TEx X W u1 t1) (h2 : TEx X W u2 t2) : Calls Tryz.prog 24 #[.string ⟨#[47, 61]⟩, u1, u2] W (R2 X W ((truT (t1.cmp t2 != 0), []))) := by
  obtain ⟨A1, n1, c1, rfl, hn1⟩ := h1.form
  have H1 := Lib.hid h1
  have HN1 := Lib.hid hn1
  obtain ⟨A2, n2, c2, rfl, hn2⟩ := h2.form
  have H2 := Lib.hid h2
  have HN2 := Lib.hid hn2
  have HX := Lib.hid hX
  clear h1 hn1 h2 hn2 hX
  obtain ⟨b, hb⟩ : ∃ b, (t1.cmp t2 != 0) = b := ⟨_, rfl⟩
  rw [hb]
  have HBB := Lib.hid hb
  clear hb
  go_enter Tryz.func24, Tryz.ntmps24
  go_upto_region 1 with (fail)
  refine wp_world (fun V => Below W.heap.size W V ∧ Blk V (W.heap.size) 26 #[.int .i64 t1.kind, .int .i64 t1.int, .string ⟨t1.name.toArray⟩, .slice A1 n1 c1] ∧ Blk V (W.heap.size + 1) 26 #[.int .i64 t2.kind, .int .i64 t2.int, .string ⟨t2.name.toArray⟩, .slice A2 n2 c2] ∧ Blk V (W.heap.size + 1 + 1) 26 #[.int .i64 0, .int .i64 0, .string ⟨#[]⟩, .slice none 0 0]) ⟨below_step (below_step (below_alloc _ _) (below_alloc _ _)) (below_alloc _ _), (((Blk.newAt (by first | (with_reducible rfl) | simp)).alloc _).alloc _), ((Blk.newAt (by first | (with_reducible rfl) | simp)).alloc _), (Blk.newAt (by first | (with_reducible rfl) | simp))⟩ ?_
  rintro V ⟨hb, hq1, hq2, hz⟩
  have HB := Lib.hid hb
  have HKq1 := Lib.hid hq1
  have HKq2 := Lib.hid hq2
  have HKz := Lib.hid hz
  have q10 := HKq1.out.cell 0
  have q11 := HKq1.out.cell 1
  have q12 := HKq1.out.cell 2
  have q13 := HKq1.out.cell 3
  have q1f0 := HKq1.out.frozen 0
  have q1f1 := HKq1.out.frozen 1
  have q1f2 := HKq1.out.frozen 2
  have q1f3 := HKq1.out.frozen 3
  have q20 := HKq2.out.cell 0
  have q21 := HKq2.out.cell 1
  have q22 := HKq2.out.cell 2
  have q23 := HKq2.out.cell 3
  have q2f0 := HKq2.out.frozen 0
  have q2f1 := HKq2.out.frozen 1
  have q2f2 := HKq2.out.frozen 2
  have q2f3 := HKq2.out.frozen 3
  have z0 := HKz.out.cell 0
  have z1 := HKz.out.cell 1
  have z2 := HKz.out.cell 2
  have z3 := HKz.out.cell 3
  have zf0 := HKz.out.frozen 0
  have zf1 := HKz.out.frozen 1
  have zf2 := HKz.out.frozen 2
  have zf3 := HKz.out.frozen 3
  clear hb hq1 hq2 hz
  have hb := HBB.out
  go_wp2_with (first | (go_at_call 27; refine (rcmp_v (X := (fun k => X k ∨ k = W.heap.size + 1 + 1)) (Y := (fun k => X k ∨ k = W.heap.size + 1 + 1)) (H1.out.up HB.out (by omega)) (H2.out.up HB.out (by omega))).mono ?_; rintro e V ⟨rfl, hb1⟩; have HKq1 := Lib.hid (HKq1.out.keep hb1); have HKq2 := Lib.hid (HKq2.out.keep hb1); have HKz := Lib.hid (HKz.out.keep hb1); have HB := Lib.hid (below_step HB.out hb1); have q10 := HKq1.out.cell 0; have q11 := HKq1.out.cell 1; have q12 := HKq1.out.cell 2; have q13 := HKq1.out.cell 3; have q1f0 := HKq1.out.frozen 0; have q1f1 := HKq1.out.frozen 1; have q1f2 := HKq1.out.frozen 2; have q1f3 := HKq1.out.frozen 3; have q20 := HKq2.out.cell 0; have q21 := HKq2.out.cell 1; have q22 := HKq2.out.cell 2; have q23 := HKq2.out.cell 3; have q2f0 := HKq2.out.frozen 0; have q2f1 := HKq2.out.frozen 1; have q2f2 := HKq2.out.frozen 2; have q2f3 := HKq2.out.frozen 3; have z0 := HKz.out.cell 0; have z1 := HKz.out.cell 1; have z2 := HKz.out.cell 2; have z3 := HKz.out.cell 3; have zf0 := HKz.out.frozen 0; have zf1 := HKz.out.frozen 1; have zf2 := HKz.out.frozen 2; have zf3 := HKz.out.frozen 3; clear hb1) | (go_at_call 77; refine (rtruth_v (fun k => X k ∨ k = W.heap.size + 1 + 1) b V).mono ?_; rintro e w1 ⟨v, rfl, hT, hb1⟩; obtain ⟨A9, n9, c9, rfl, hn⟩ := hT.form; have HT := Lib.hid hT; have HKq1 := Lib.hid (HKq1.out.keep hb1); have HKq2 := Lib.hid (HKq2.out.keep hb1); have HKz := Lib.hid (HKz.out.keep hb1); have HB := Lib.hid (below_step HB.out hb1); have q10 := HKq1.out.cell 0; have q11 := HKq1.out.cell 1; have q12 := HKq1.out.cell 2; have q13 := HKq1.out.cell 3; have q1f0 := HKq1.out.frozen 0; have q1f1 := HKq1.out.frozen 1; have q1f2 := HKq1.out.frozen 2; have q1f3 := HKq1.out.frozen 3; have q20 := HKq2.out.cell 0; have q21 := HKq2.out.cell 1; have q22 := HKq2.out.cell 2; have q23 := HKq2.out.cell 3; have q2f0 := HKq2.out.frozen 0; have q2f1 := HKq2.out.frozen 1; have q2f2 := HKq2.out.frozen 2; have q2f3 := HKq2.out.frozen 3; have z0 := HKz.out.cell 0; have z1 := HKz.out.cell 1; have z2 := HKz.out.cell 2; have z3 := HKz.out.cell 3; have zf0 := HKz.out.frozen 0; have zf1 := HKz.out.frozen 1; have zf2 := HKz.out.frozen 2; have zf3 := HKz.out.frozen 3; clear hn hT hb1))
  have hB2 := HKz.out.set4 (.int .i64 ((truT b)).kind) (.int .i64 ((truT b)).int) (.string ⟨((truT b)).name.toArray⟩) (.slice A9 n9 c9)
  have y0 := hB2.cell 0
  have y1 := hB2.cell 1
  have y2 := hB2.cell 2
  have y3 := hB2.cell 3
  refine bodyPost_ret (v := .tuple #[.agg #[.int .i64 ((truT b)).kind, .int .i64 ((truT b)).int, .string ⟨((truT b)).name.toArray⟩, .slice A9 n9 c9], .string ⟨(([] : List UInt8)).toArray⟩]) (by simp [results, Tryz.results24, go_sem, y0, y1, y2, y3]) rfl ?_
  obtain ⟨g1, g2⟩ := fin4 (X := X) HB.out (by omega) HT.out
  exact ⟨_, rfl, g1, g2⟩
set_option maxRecDepth 100000 in
set_option maxHeartbeats 1000000 in
theorem rtwo_lt {X : Nat → Prop} (hX : ∀ k, X k → k < W.heap.size) (h1 : TEx X W u1 t1) (h2 : TEx X W u2 t2) : Calls Tryz.prog 24 #[.string ⟨#[60]⟩, u1, u2] W (R2 X W ((truT (decide (t1.cmp t2 < 0)), []))) := by
  obtain ⟨A1, n1, c1, rfl, hn1⟩ := h1.form
  have H1 := Lib.hid h1
  have HN1 := Lib.hid hn1
  obtain ⟨A2, n2, c2, rfl, hn2⟩ := h2.form
  have H2 := Lib.hid h2
  have HN2 := Lib.hid hn2
  have HX := Lib.hid hX
  clear h1 hn1 h2 hn2 hX
  obtain ⟨b, hb⟩ : ∃ b, (decide (t1.cmp t2 < 0)) = b := ⟨_, rfl⟩
  rw [hb]
  have HBB := Lib.hid hb
  clear hb
  go_enter Tryz.func24, Tryz.ntmps24
  go_upto_region 1 with (fail)
  refine wp_world (fun V => Below W.heap.size W V ∧ Blk V (W.heap.size) 26 #[.int .i64 t1.kind, .int .i64 t1.int, .string ⟨t1.name.toArray⟩, .slice A1 n1 c1] ∧ Blk V (W.heap.size + 1) 26 #[.int .i64 t2.kind, .int .i64 t2.int, .string ⟨t2.name.toArray⟩, .slice A2 n2 c2] ∧ Blk V (W.heap.size + 1 + 1) 26 #[.int .i64 0, .int .i64 0, .string ⟨#[]⟩, .slice none 0 0]) ⟨below_step (below_step (below_alloc _ _) (below_alloc _ _)) (below_alloc _ _), (((Blk.newAt (by first | (with_reducible rfl) | simp)).alloc _).alloc _), ((Blk.newAt (by first | (with_reducible rfl) | simp)).alloc _), (Blk.newAt (by first | (with_reducible rfl) | simp))⟩ ?_
  rintro V ⟨hb, hq1, hq2, hz⟩
  have HB := Lib.hid hb
  have HKq1 := Lib.hid hq1
  have HKq2 := Lib.hid hq2
  have HKz := Lib.hid hz
  have q10 := HKq1.out.cell 0
  have q11 := HKq1.out.cell 1
  have q12 := HKq1.out.cell 2
  have q13 := HKq1.out.cell 3
  have q1f0 := HKq1.out.frozen 0
  have q1f1 := HKq1.out.frozen 1
  have q1f2 := HKq1.out.frozen 2
  have q1f3 := HKq1.out.frozen 3
  have q20 := HKq2.out.cell 0
  have q21 := HKq2.out.cell 1
  have q22 := HKq2.out.cell 2
  have q23 := HKq2.out.cell 3
  have q2f0 := HKq2.out.frozen 0
  have q2f1 := HKq2.out.frozen 1
  have q2f2 := HKq2.out.frozen 2
  have q2f3 := HKq2.out.frozen 3
  have z0 := HKz.out.cell 0
  have z1 := HKz.out.cell 1
  have z2 := HKz.out.cell 2
  have z3 := HKz.out.cell 3
  have zf0 := HKz.out.frozen 0
  have zf1 := HKz.out.frozen 1
  have zf2 := HKz.out.frozen 2
  have zf3 := HKz.out.frozen 3
  clear hb hq1 hq2 hz
  have hb := HBB.out
  go_wp2_with (first | (go_at_call 27; refine (rcmp_v (X := (fun k => X k ∨ k = W.heap.size + 1 + 1)) (Y := (fun k => X k ∨ k = W.heap.size + 1 + 1)) (H1.out.up HB.out (by omega)) (H2.out.up HB.out (by omega))).mono ?_; rintro e V ⟨rfl, hb1⟩; have HKq1 := Lib.hid (HKq1.out.keep hb1); have HKq2 := Lib.hid (HKq2.out.keep hb1); have HKz := Lib.hid (HKz.out.keep hb1); have HB := Lib.hid (below_step HB.out hb1); have q10 := HKq1.out.cell 0; have q11 := HKq1.out.cell 1; have q12 := HKq1.out.cell 2; have q13 := HKq1.out.cell 3; have q1f0 := HKq1.out.frozen 0; have q1f1 := HKq1.out.frozen 1; have q1f2 := HKq1.out.frozen 2; have q1f3 := HKq1.out.frozen 3; have q20 := HKq2.out.cell 0; have q21 := HKq2.out.cell 1; have q22 := HKq2.out.cell 2; have q23 := HKq2.out.cell 3; have q2f0 := HKq2.out.frozen 0; have q2f1 := HKq2.out.frozen 1; have q2f2 := HKq2.out.frozen 2; have q2f3 := HKq2.out.frozen 3; have z0 := HKz.out.cell 0; have z1 := HKz.out.cell 1; have z2 := HKz.out.cell 2; have z3 := HKz.out.cell 3; have zf0 := HKz.out.frozen 0; have zf1 := HKz.out.frozen 1; have zf2 := HKz.out.frozen 2; have zf3 := HKz.out.frozen 3; clear hb1) | (go_at_call 77; refine (rtruth_v (fun k => X k ∨ k = W.heap.size + 1 + 1) b V).mono ?_; rintro e w1 ⟨v, rfl, hT, hb1⟩; obtain ⟨A9, n9, c9, rfl, hn⟩ := hT.form; have HT := Lib.hid hT; have HKq1 := Lib.hid (HKq1.out.keep hb1); have HKq2 := Lib.hid (HKq2.out.keep hb1); have HKz := Lib.hid (HKz.out.keep hb1); have HB := Lib.hid (below_step HB.out hb1); have q10 := HKq1.out.cell 0; have q11 := HKq1.out.cell 1; have q12 := HKq1.out.cell 2; have q13 := HKq1.out.cell 3; have q1f0 := HKq1.out.frozen 0; have q1f1 := HKq1.out.frozen 1; have q1f2 := HKq1.out.frozen 2; have q1f3 := HKq1.out.frozen 3; have q20 := HKq2.out.cell 0; have q21 := HKq2.out.cell 1; have q22 := HKq2.out.cell 2; have q23 := HKq2.out.cell 3; have q2f0 := HKq2.out.frozen 0; have q2f1 := HKq2.out.frozen 1; have q2f2 := HKq2.out.frozen 2; have q2f3 := HKq2.out.frozen 3; have z0 := HKz.out.cell 0; have z1 := HKz.out.cell 1; have z2 := HKz.out.cell 2; have z3 := HKz.out.cell 3; have zf0 := HKz.out.frozen 0; have zf1 := HKz.out.frozen 1; have zf2 := HKz.out.frozen 2; have zf3 := HKz.out.frozen 3; clear hn hT hb1))
  have hB2 := HKz.out.set4 (.int .i64 ((truT b)).kind) (.int .i64 ((truT b)).int) (.string ⟨((truT b)).name.toArray⟩) (.slice A9 n9 c9)
  have y0 := hB2.cell 0
  have y1 := hB2.cell 1
  have y2 := hB2.cell 2
  have y3 := hB2.cell 3
  refine bodyPost_ret (v := .tuple #[.agg #[.int .i64 ((truT b)).kind, .int .i64 ((truT b)).int, .string ⟨((truT b)).name.toArray⟩, .slice A9 n9 c9], .string ⟨(([] : List UInt8)).toArray⟩]) (by simp [results, Tryz.results24, go_sem, y0, y1, y2, y3]) rfl ?_
  obtain ⟨g1, g2⟩ := fin4 (X := X) HB.out (by omega) HT.out
  exact ⟨_, rfl, g1, g2⟩
set_option maxRecDepth 100000 in
set_option maxHeartbeats 1000000 in
theorem rtwo_gt {X : Nat → Prop} (hX : ∀ k, X k → k < W.heap.size) (h1 : TEx X W u1 t1) (h2 : TEx X W u2 t2) : Calls Tryz.prog 24 #[.string ⟨#[62]⟩, u1, u2] W (R2 X W ((truT (decide (0 < t1.cmp t2)), []))) := by
  obtain ⟨A1, n1, c1, rfl, hn1⟩ := h1.form
  have H1 := Lib.hid h1
  have HN1 := Lib.hid hn1
  obtain ⟨A2, n2, c2, rfl, hn2⟩ := h2.form
  have H2 := Lib.hid h2
  have HN2 := Lib.hid hn2
  have HX := Lib.hid hX
  clear h1 hn1 h2 hn2 hX
  obtain ⟨b, hb⟩ : ∃ b, (decide (0 < t1.cmp t2)) = b := ⟨_, rfl⟩
  rw [hb]
  have HBB := Lib.hid hb
  clear hb
  go_enter Tryz.func24, Tryz.ntmps24
  go_upto_region 1 with (fail)
  refine wp_world (fun V => Below W.heap.size W V ∧ Blk V (W.heap.size) 26 #[.int .i64 t1.kind, .int .i64 t1.int, .string ⟨t1.name.toArray⟩, .slice A1 n1 c1] ∧ Blk V (W.heap.size + 1) 26 #[.int .i64 t2.kind, .int .i64 t2.int, .string ⟨t2.name.toArray⟩, .slice A2 n2 c2] ∧ Blk V (W.heap.size + 1 + 1) 26 #[.int .i64 0, .int .i64 0, .string ⟨#[]⟩, .slice none 0 0]) ⟨below_step (below_step (below_alloc _ _) (below_alloc _ _)) (below_alloc _ _), (((Blk.newAt (by first | (with_reducible rfl) | simp)).alloc _).alloc _), ((Blk.newAt (by first | (with_reducible rfl) | simp)).alloc _), (Blk.newAt (by first | (with_reducible rfl) | simp))⟩ ?_
  rintro V ⟨hb, hq1, hq2, hz⟩
  have HB := Lib.hid hb
  have HKq1 := Lib.hid hq1
  have HKq2 := Lib.hid hq2
  have HKz := Lib.hid hz
  have q10 := HKq1.out.cell 0
  have q11 := HKq1.out.cell 1
  have q12 := HKq1.out.cell 2
  have q13 := HKq1.out.cell 3
  have q1f0 := HKq1.out.frozen 0
  have q1f1 := HKq1.out.frozen 1
  have q1f2 := HKq1.out.frozen 2
  have q1f3 := HKq1.out.frozen 3
  have q20 := HKq2.out.cell 0
  have q21 := HKq2.out.cell 1
  have q22 := HKq2.out.cell 2
  have q23 := HKq2.out.cell 3
  have q2f0 := HKq2.out.frozen 0
  have q2f1 := HKq2.out.frozen 1
  have q2f2 := HKq2.out.frozen 2
  have q2f3 := HKq2.out.frozen 3
  have z0 := HKz.out.cell 0
  have z1 := HKz.out.cell 1
  have z2 := HKz.out.cell 2
  have z3 := HKz.out.cell 3
  have zf0 := HKz.out.frozen 0
  have zf1 := HKz.out.frozen 1
  have zf2 := HKz.out.frozen 2
  have zf3 := HKz.out.frozen 3
  clear hb hq1 hq2 hz
  have hb := HBB.out
  go_wp2_with (first | (go_at_call 27; refine (rcmp_v (X := (fun k => X k ∨ k = W.heap.size + 1 + 1)) (Y := (fun k => X k ∨ k = W.heap.size + 1 + 1)) (H1.out.up HB.out (by omega)) (H2.out.up HB.out (by omega))).mono ?_; rintro e V ⟨rfl, hb1⟩; have HKq1 := Lib.hid (HKq1.out.keep hb1); have HKq2 := Lib.hid (HKq2.out.keep hb1); have HKz := Lib.hid (HKz.out.keep hb1); have HB := Lib.hid (below_step HB.out hb1); have q10 := HKq1.out.cell 0; have q11 := HKq1.out.cell 1; have q12 := HKq1.out.cell 2; have q13 := HKq1.out.cell 3; have q1f0 := HKq1.out.frozen 0; have q1f1 := HKq1.out.frozen 1; have q1f2 := HKq1.out.frozen 2; have q1f3 := HKq1.out.frozen 3; have q20 := HKq2.out.cell 0; have q21 := HKq2.out.cell 1; have q22 := HKq2.out.cell 2; have q23 := HKq2.out.cell 3; have q2f0 := HKq2.out.frozen 0; have q2f1 := HKq2.out.frozen 1; have q2f2 := HKq2.out.frozen 2; have q2f3 := HKq2.out.frozen 3; have z0 := HKz.out.cell 0; have z1 := HKz.out.cell 1; have z2 := HKz.out.cell 2; have z3 := HKz.out.cell 3; have zf0 := HKz.out.frozen 0; have zf1 := HKz.out.frozen 1; have zf2 := HKz.out.frozen 2; have zf3 := HKz.out.frozen 3; clear hb1) | (go_at_call 77; refine (rtruth_v (fun k => X k ∨ k = W.heap.size + 1 + 1) b V).mono ?_; rintro e w1 ⟨v, rfl, hT, hb1⟩; obtain ⟨A9, n9, c9, rfl, hn⟩ := hT.form; have HT := Lib.hid hT; have HKq1 := Lib.hid (HKq1.out.keep hb1); have HKq2 := Lib.hid (HKq2.out.keep hb1); have HKz := Lib.hid (HKz.out.keep hb1); have HB := Lib.hid (below_step HB.out hb1); have q10 := HKq1.out.cell 0; have q11 := HKq1.out.cell 1; have q12 := HKq1.out.cell 2; have q13 := HKq1.out.cell 3; have q1f0 := HKq1.out.frozen 0; have q1f1 := HKq1.out.frozen 1; have q1f2 := HKq1.out.frozen 2; have q1f3 := HKq1.out.frozen 3; have q20 := HKq2.out.cell 0; have q21 := HKq2.out.cell 1; have q22 := HKq2.out.cell 2; have q23 := HKq2.out.cell 3; have q2f0 := HKq2.out.frozen 0; have q2f1 := HKq2.out.frozen 1; have q2f2 := HKq2.out.frozen 2; have q2f3 := HKq2.out.frozen 3; have z0 := HKz.out.cell 0; have z1 := HKz.out.cell 1; have z2 := HKz.out.cell 2; have z3 := HKz.out.cell 3; have zf0 := HKz.out.frozen 0; have zf1 := HKz.out.frozen 1; have zf2 := HKz.out.frozen 2; have zf3 := HKz.out.frozen 3; clear hn hT hb1))
  have hB2 := HKz.out.set4 (.int .i64 ((truT b)).kind) (.int .i64 ((truT b)).int) (.string ⟨((truT b)).name.toArray⟩) (.slice A9 n9 c9)
  have y0 := hB2.cell 0
  have y1 := hB2.cell 1
  have y2 := hB2.cell 2
  have y3 := hB2.cell 3
  refine bodyPost_ret (v := .tuple #[.agg #[.int .i64 ((truT b)).kind, .int .i64 ((truT b)).int, .string ⟨((truT b)).name.toArray⟩, .slice A9 n9 c9], .string ⟨(([] : List UInt8)).toArray⟩]) (by simp [results, Tryz.results24, go_sem, y0, y1, y2, y3]) rfl ?_
  obtain ⟨g1, g2⟩ := fin4 (X := X) HB.out (by omega) HT.out
  exact ⟨_, rfl, g1, g2⟩
set_option maxRecDepth 100000 in
set_option maxHeartbeats 1000000 in
theorem rtwo_le {X : Nat → Prop} (hX : ∀ k, X k → k < W.heap.size) (h1 : TEx X W u1 t1) (h2 : TEx X W u2 t2) : Calls Tryz.prog 24 #[.string ⟨#[61, 60]⟩, u1, u2] W (R2 X W ((truT (decide (t1.cmp t2 ≤ 0)), []))) := by
  obtain ⟨A1, n1, c1, rfl, hn1⟩ := h1.form
  have H1 := Lib.hid h1
  have HN1 := Lib.hid hn1
  obtain ⟨A2, n2, c2, rfl, hn2⟩ := h2.form
  have H2 := Lib.hid h2
  have HN2 := Lib.hid hn2
  have HX := Lib.hid hX
  clear h1 hn1 h2 hn2 hX
  obtain ⟨b, hb⟩ : ∃ b, (decide (t1.cmp t2 ≤ 0)) = b := ⟨_, rfl⟩
  rw [hb]
  have HBB := Lib.hid hb
  clear hb
  go_enter Tryz.func24, Tryz.ntmps24
  go_upto_region 1 with (fail)
  refine wp_world (fun V => Below W.heap.size W V ∧ Blk V (W.heap.size) 26 #[.int .i64 t1.kind, .int .i64 t1.int, .string ⟨t1.name.toArray⟩, .slice A1 n1 c1] ∧ Blk V (W.heap.size + 1) 26 #[.int .i64 t2.kind, .int .i64 t2.int, .string ⟨t2.name.toArray⟩, .slice A2 n2 c2] ∧ Blk V (W.heap.size + 1 + 1) 26 #[.int .i64 0, .int .i64 0, .string ⟨#[]⟩, .slice none 0 0]) ⟨below_step (below_step (below_alloc _ _) (below_alloc _ _)) (below_alloc _ _), (((Blk.newAt (by first | (with_reducible rfl) | simp)).alloc _).alloc _), ((Blk.newAt (by first | (with_reducible rfl) | simp)).alloc _), (Blk.newAt (by first | (with_reducible rfl) | simp))⟩ ?_
  rintro V ⟨hb, hq1, hq2, hz⟩
  have HB := Lib.hid hb
  have HKq1 := Lib.hid hq1
  have HKq2 := Lib.hid hq2
  have HKz := Lib.hid hz
  have q10 := HKq1.out.cell 0
  have q11 := HKq1.out.cell 1
  have q12 := HKq1.out.cell 2
  have q13 := HKq1.out.cell 3
  have q1f0 := HKq1.out.frozen 0
  have q1f1 := HKq1.out.frozen 1
  have q1f2 := HKq1.out.frozen 2
  have q1f3 := HKq1.out.frozen 3
  have q20 := HKq2.out.cell 0
  have q21 := HKq2.out.cell 1
  have q22 := HKq2.out.cell 2
  have q23 := HKq2.out.cell 3
  have q2f0 := HKq2.out.frozen 0
  have q2f1 := HKq2.out.frozen 1
  have q2f2 := HKq2.out.frozen 2
  have q2f3 := HKq2.out.frozen 3
  have z0 := HKz.out.cell 0
  have z1 := HKz.out.cell 1
  have z2 := HKz.out.cell 2
  have z3 := HKz.out.cell 3
  have zf0 := HKz.out.frozen 0
  have zf1 := HKz.out.frozen 1
  have zf2 := HKz.out.frozen 2
  have zf3 := HKz.out.frozen 3
  clear hb hq1 hq2 hz
  have hb := HBB.out
  go_wp2_with (first | (go_at_call 27; refine (rcmp_v (X := (fun k => X k ∨ k = W.heap.size + 1 + 1)) (Y := (fun k => X k ∨ k = W.heap.size + 1 + 1)) (H1.out.up HB.out (by omega)) (H2.out.up HB.out (by omega))).mono ?_; rintro e V ⟨rfl, hb1⟩; have HKq1 := Lib.hid (HKq1.out.keep hb1); have HKq2 := Lib.hid (HKq2.out.keep hb1); have HKz := Lib.hid (HKz.out.keep hb1); have HB := Lib.hid (below_step HB.out hb1); have q10 := HKq1.out.cell 0; have q11 := HKq1.out.cell 1; have q12 := HKq1.out.cell 2; have q13 := HKq1.out.cell 3; have q1f0 := HKq1.out.frozen 0; have q1f1 := HKq1.out.frozen 1; have q1f2 := HKq1.out.frozen 2; have q1f3 := HKq1.out.frozen 3; have q20 := HKq2.out.cell 0; have q21 := HKq2.out.cell 1; have q22 := HKq2.out.cell 2; have q23 := HKq2.out.cell 3; have q2f0 := HKq2.out.frozen 0; have q2f1 := HKq2.out.frozen 1; have q2f2 := HKq2.out.frozen 2; have q2f3 := HKq2.out.frozen 3; have z0 := HKz.out.cell 0; have z1 := HKz.out.cell 1; have z2 := HKz.out.cell 2; have z3 := HKz.out.cell 3; have zf0 := HKz.out.frozen 0; have zf1 := HKz.out.frozen 1; have zf2 := HKz.out.frozen 2; have zf3 := HKz.out.frozen 3; clear hb1) | (go_at_call 77; refine (rtruth_v (fun k => X k ∨ k = W.heap.size + 1 + 1) b V).mono ?_; rintro e w1 ⟨v, rfl, hT, hb1⟩; obtain ⟨A9, n9, c9, rfl, hn⟩ := hT.form; have HT := Lib.hid hT; have HKq1 := Lib.hid (HKq1.out.keep hb1); have HKq2 := Lib.hid (HKq2.out.keep hb1); have HKz := Lib.hid (HKz.out.keep hb1); have HB := Lib.hid (below_step HB.out hb1); have q10 := HKq1.out.cell 0; have q11 := HKq1.out.cell 1; have q12 := HKq1.out.cell 2; have q13 := HKq1.out.cell 3; have q1f0 := HKq1.out.frozen 0; have q1f1 := HKq1.out.frozen 1; have q1f2 := HKq1.out.frozen 2; have q1f3 := HKq1.out.frozen 3; have q20 := HKq2.out.cell 0; have q21 := HKq2.out.cell 1; have q22 := HKq2.out.cell 2; have q23 := HKq2.out.cell 3; have q2f0 := HKq2.out.frozen 0; have q2f1 := HKq2.out.frozen 1; have q2f2 := HKq2.out.frozen 2; have q2f3 := HKq2.out.frozen 3; have z0 := HKz.out.cell 0; have z1 := HKz.out.cell 1; have z2 := HKz.out.cell 2; have z3 := HKz.out.cell 3; have zf0 := HKz.out.frozen 0; have zf1 := HKz.out.frozen 1; have zf2 := HKz.out.frozen 2; have zf3 := HKz.out.frozen 3; clear hn hT hb1))
  have hB2 := HKz.out.set4 (.int .i64 ((truT b)).kind) (.int .i64 ((truT b)).int) (.string ⟨((truT b)).name.toArray⟩) (.slice A9 n9 c9)
  have y0 := hB2.cell 0
  have y1 := hB2.cell 1
  have y2 := hB2.cell 2
  have y3 := hB2.cell 3
  refine bodyPost_ret (v := .tuple #[.agg #[.int .i64 ((truT b)).kind, .int .i64 ((truT b)).int, .string ⟨((truT b)).name.toArray⟩, .slice A9 n9 c9], .string ⟨(([] : List UInt8)).toArray⟩]) (by simp [results, Tryz.results24, go_sem, y0, y1, y2, y3]) rfl ?_
  obtain ⟨g1, g2⟩ := fin4 (X := X) HB.out (by omega) HT.out
  exact ⟨_, rfl, g1, g2⟩
set_option maxRecDepth 100000 in
set_option maxHeartbeats 1000000 in
theorem rtwo_ge {X : Nat → Prop} (hX : ∀ k, X k → k < W.heap.size) (h1 : TEx X W u1 t1) (h2 : TEx X W u2 t2) : Calls Tryz.prog 24 #[.string ⟨#[62, 61]⟩, u1, u2] W (R2 X W ((truT (decide (0 ≤ t1.cmp t2)), []))) := by
  obtain ⟨A1, n1, c1, rfl, hn1⟩ := h1.form
  have H1 := Lib.hid h1
  have HN1 := Lib.hid hn1
  obtain ⟨A2, n2, c2, rfl, hn2⟩ := h2.form
  have H2 := Lib.hid h2
  have HN2 := Lib.hid hn2
  have HX := Lib.hid hX
  clear h1 hn1 h2 hn2 hX
  obtain ⟨b, hb⟩ : ∃ b, (decide (0 ≤ t1.cmp t2)) = b := ⟨_, rfl⟩
  rw [hb]
  have HBB := Lib.hid hb
  clear hb
  go_enter Tryz.func24, Tryz.ntmps24
  go_upto_region 1 with (fail)
  refine wp_world (fun V => Below W.heap.size W V ∧ Blk V (W.heap.size) 26 #[.int .i64 t1.kind, .int .i64 t1.int, .string ⟨t1.name.toArray⟩, .slice A1 n1 c1] ∧ Blk V (W.heap.size + 1) 26 #[.int .i64 t2.kind, .int .i64 t2.int, .string ⟨t2.name.toArray⟩, .slice A2 n2 c2] ∧ Blk V (W.heap.size + 1 + 1) 26 #[.int .i64 0, .int .i64 0, .string ⟨#[]⟩, .slice none 0 0]) ⟨below_step (below_step (below_alloc _ _) (below_alloc _ _)) (below_alloc _ _), (((Blk.newAt (by first | (with_reducible rfl) | simp)).alloc _).alloc _), ((Blk.newAt (by first | (with_reducible rfl) | simp)).alloc _), (Blk.newAt (by first | (with_reducible rfl) | simp))⟩ ?_
  rintro V ⟨hb, hq1, hq2, hz⟩
  have HB := Lib.hid hb
  have HKq1 := Lib.hid hq1
  have HKq2 := Lib.hid hq2
  have HKz := Lib.hid hz
  have q10 := HKq1.out.cell 0
  have q11 := HKq1.out.cell 1
  have q12 := HKq1.out.cell 2
  have q13 := HKq1.out.cell 3
  have q1f0 := HKq1.out.frozen 0
  have q1f1 := HKq1.out.frozen 1
  have q1f2 := HKq1.out.frozen 2
  have q1f3 := HKq1.out.frozen 3
  have q20 := HKq2.out.cell 0
  have q21 := HKq2.out.cell 1
  have q22 := HKq2.out.cell 2
  have q23 := HKq2.out.cell 3
  have q2f0 := HKq2.out.frozen 0
  have q2f1 := HKq2.out.frozen 1
  have q2f2 := HKq2.out.frozen 2
  have q2f3 := HKq2.out.frozen 3
  have z0 := HKz.out.cell 0
  have z1 := HKz.out.cell 1
  have z2 := HKz.out.cell 2
  have z3 := HKz.out.cell 3
  have zf0 := HKz.out.frozen 0
  have zf1 := HKz.out.frozen 1
  have zf2 := HKz.out.frozen 2
  have zf3 := HKz.out.frozen 3
  clear hb hq1 hq2 hz
  have hb := HBB.out
  go_wp2_with (first | (go_at_call 27; refine (rcmp_v (X := (fun k => X k ∨ k = W.heap.size + 1 + 1)) (Y := (fun k => X k ∨ k = W.heap.size + 1 + 1)) (H1.out.up HB.out (by omega)) (H2.out.up HB.out (by omega))).mono ?_; rintro e V ⟨rfl, hb1⟩; have HKq1 := Lib.hid (HKq1.out.keep hb1); have HKq2 := Lib.hid (HKq2.out.keep hb1); have HKz := Lib.hid (HKz.out.keep hb1); have HB := Lib.hid (below_step HB.out hb1); have q10 := HKq1.out.cell 0; have q11 := HKq1.out.cell 1; have q12 := HKq1.out.cell 2; have q13 := HKq1.out.cell 3; have q1f0 := HKq1.out.frozen 0; have q1f1 := HKq1.out.frozen 1; have q1f2 := HKq1.out.frozen 2; have q1f3 := HKq1.out.frozen 3; have q20 := HKq2.out.cell 0; have q21 := HKq2.out.cell 1; have q22 := HKq2.out.cell 2; have q23 := HKq2.out.cell 3; have q2f0 := HKq2.out.frozen 0; have q2f1 := HKq2.out.frozen 1; have q2f2 := HKq2.out.frozen 2; have q2f3 := HKq2.out.frozen 3; have z0 := HKz.out.cell 0; have z1 := HKz.out.cell 1; have z2 := HKz.out.cell 2; have z3 := HKz.out.cell 3; have zf0 := HKz.out.frozen 0; have zf1 := HKz.out.frozen 1; have zf2 := HKz.out.frozen 2; have zf3 := HKz.out.frozen 3; clear hb1) | (go_at_call 77; refine (rtruth_v (fun k => X k ∨ k = W.heap.size + 1 + 1) b V).mono ?_; rintro e w1 ⟨v, rfl, hT, hb1⟩; obtain ⟨A9, n9, c9, rfl, hn⟩ := hT.form; have HT := Lib.hid hT; have HKq1 := Lib.hid (HKq1.out.keep hb1); have HKq2 := Lib.hid (HKq2.out.keep hb1); have HKz := Lib.hid (HKz.out.keep hb1); have HB := Lib.hid (below_step HB.out hb1); have q10 := HKq1.out.cell 0; have q11 := HKq1.out.cell 1; have q12 := HKq1.out.cell 2; have q13 := HKq1.out.cell 3; have q1f0 := HKq1.out.frozen 0; have q1f1 := HKq1.out.frozen 1; have q1f2 := HKq1.out.frozen 2; have q1f3 := HKq1.out.frozen 3; have q20 := HKq2.out.cell 0; have q21 := HKq2.out.cell 1; have q22 := HKq2.out.cell 2; have q23 := HKq2.out.cell 3; have q2f0 := HKq2.out.frozen 0; have q2f1 := HKq2.out.frozen 1; have q2f2 := HKq2.out.frozen 2; have q2f3 := HKq2.out.frozen 3; have z0 := HKz.out.cell 0; have z1 := HKz.out.cell 1; have z2 := HKz.out.cell 2; have z3 := HKz.out.cell 3; have zf0 := HKz.out.frozen 0; have zf1 := HKz.out.frozen 1; have zf2 := HKz.out.frozen 2; have zf3 := HKz.out.frozen 3; clear hn hT hb1))
  have hB2 := HKz.out.set4 (.int .i64 ((truT b)).kind) (.int .i64 ((truT b)).int) (.string ⟨((truT b)).name.toArray⟩) (.slice A9 n9 c9)
  have y0 := hB2.cell 0
  have y1 := hB2.cell 1
  have y2 := hB2.cell 2
  have y3 := hB2.cell 3
  refine bodyPost_ret (v := .tuple #[.agg #[.int .i64 ((truT b)).kind, .int .i64 ((truT b)).int, .string ⟨((truT b)).name.toArray⟩, .slice A9 n9 c9], .string ⟨(([] : List UInt8)).toArray⟩]) (by simp [results, Tryz.results24, go_sem, y0, y1, y2, y3]) rfl ?_
  obtain ⟨g1, g2⟩ := fin4 (X := X) HB.out (by omega) HT.out
  exact ⟨_, rfl, g1, g2⟩
set_option maxRecDepth 100000 in
set_option maxHeartbeats 1000000 in
theorem rtwo_and {X : Nat → Prop} (hX : ∀ k, X k → k < W.heap.size) (h1 : TEx X W u1 t1) (h2 : TEx X W u2 t2) : Calls Tryz.prog 24 #[.string ⟨#[97, 110, 100]⟩, u1, u2] W (R2 X W ((if (lgP t1).2 = true ∧ (lgP t2).2 = true then (truT ((lgP t1).1 && (lgP t2).1), []) else (tZ, sArg)))) := by
  obtain ⟨A1, n1, c1, rfl, hn1⟩ := h1.form
  have H1 := Lib.hid h1
  have HN1 := Lib.hid hn1
  obtain ⟨A2, n2, c2, rfl, hn2⟩ := h2.form
  have H2 := Lib.hid h2
  have HN2 := Lib.hid hn2
  have HX := Lib.hid hX
  clear h1 hn1 h2 hn2 hX
  have HL1 : Hid (∀ V, Below W.heap.size W V → Calls Tryz.prog 76 #[.agg #[.int .i64 t1.kind, .int .i64 t1.int, .string ⟨t1.name.toArray⟩, .slice A1 n1 c1]] V fun e w' => e = .returned (.tuple #[.bool (lgP t1).1, .bool (lgP t1).2]) ∧ Below V.heap.size V w') := fun V hb => rlogic_v (X := X) (fun k hk => Nat.lt_of_lt_of_le (HX.out k hk) hb.size) (H1.out.below hb)
  have HL2 : Hid (∀ V, Below W.heap.size W V → Calls Tryz.prog 76 #[.agg #[.int .i64 t2.kind, .int .i64 t2.int, .string ⟨t2.name.toArray⟩, .slice A2 n2 c2]] V fun e w' => e = .returned (.tuple #[.bool (lgP t2).1, .bool (lgP t2).2]) ∧ Below V.heap.size V w') := fun V hb => rlogic_v (X := X) (fun k hk => Nat.lt_of_lt_of_le (HX.out k hk) hb.size) (H2.out.below hb)
  obtain ⟨x1, y1, hp1⟩ : ∃ x y, lgP t1 = (x, y) := ⟨_, _, rfl⟩
  obtain ⟨x2, y2, hp2⟩ : ∃ x y, lgP t2 = (x, y) := ⟨_, _, rfl⟩
  rw [hp1] at HL1 ⊢
  rw [hp2] at HL2 ⊢
  clear hp1 hp2
  cases y1 with
  | false =>
    rw [if_neg (fun h => by simp at h)]
    go_enter Tryz.func24, Tryz.ntmps24
    go_upto_region 1 with (fail)
    refine wp_world (fun V => Below W.heap.size W V ∧ Blk V (W.heap.size) 26 #[.int .i64 t1.kind, .int .i64 t1.int, .string ⟨t1.name.toArray⟩, .slice A1 n1 c1] ∧ Blk V (W.heap.size + 1) 26 #[.int .i64 t2.kind, .int .i64 t2.int, .string ⟨t2.name.toArray⟩, .slice A2 n2 c2] ∧ Blk V (W.heap.size + 1 + 1) 26 #[.int .i64 0, .int .i64 0, .string ⟨#[]⟩, .slice none 0 0]) ⟨below_step (below_step (below_alloc _ _) (below_alloc _ _)) (below_alloc _ _), (((Blk.newAt (by first | (with_reducible rfl) | simp)).alloc _).alloc _), ((Blk.newAt (by first | (with_reducible rfl) | simp)).alloc _), (Blk.newAt (by first | (with_reducible rfl) | simp))⟩ ?_
    rintro V ⟨hb, hq1, hq2, hz⟩
    have HB := Lib.hid hb
    have HKq1 := Lib.hid hq1
    have HKq2 := Lib.hid hq2
    have HKz := Lib.hid hz
    have q10 := HKq1.out.cell 0
    have q11 := HKq1.out.cell 1
    have q12 := HKq1.out.cell 2
    have q13 := HKq1.out.cell 3
    have q1f0 := HKq1.out.frozen 0
    have q1f1 := HKq1.out.frozen 1
    have q1f2 := HKq1.out.frozen 2
    have q1f3 := HKq1.out.frozen 3
    have q20 := HKq2.out.cell 0
    have q21 := HKq2.out.cell 1
    have q22 := HKq2.out.cell 2
    have q23 := HKq2.out.cell 3
    have q2f0 := HKq2.out.frozen 0
    have q2f1 := HKq2.out.frozen 1
    have q2f2 := HKq2.out.frozen 2
    have q2f3 := HKq2.out.frozen 3
    have z0 := HKz.out.cell 0
    have z1 := HKz.out.cell 1
    have z2 := HKz.out.cell 2
    have z3 := HKz.out.cell 3
    have zf0 := HKz.out.frozen 0
    have zf1 := HKz.out.frozen 1
    have zf2 := HKz.out.frozen 2
    have zf3 := HKz.out.frozen 3
    clear hb hq1 hq2 hz
    go_wp2_with (first | (go_at_call 27; refine (rcmp_v (X := (fun k => X k ∨ k = W.heap.size + 1 + 1)) (Y := (fun k => X k ∨ k = W.heap.size + 1 + 1)) (H1.out.up HB.out (by omega)) (H2.out.up HB.out (by omega))).mono ?_; rintro e V ⟨rfl, hb1⟩; have HKq1 := Lib.hid (HKq1.out.keep hb1); have HKq2 := Lib.hid (HKq2.out.keep hb1); have HKz := Lib.hid (HKz.out.keep hb1); have HB := Lib.hid (below_step HB.out hb1); have q10 := HKq1.out.cell 0; have q11 := HKq1.out.cell 1; have q12 := HKq1.out.cell 2; have q13 := HKq1.out.cell 3; have q1f0 := HKq1.out.frozen 0; have q1f1 := HKq1.out.frozen 1; have q1f2 := HKq1.out.frozen 2; have q1f3 := HKq1.out.frozen 3; have q20 := HKq2.out.cell 0; have q21 := HKq2.out.cell 1; have q22 := HKq2.out.cell 2; have q23 := HKq2.out.cell 3; have q2f0 := HKq2.out.frozen 0; have q2f1 := HKq2.out.frozen 1; have q2f2 := HKq2.out.frozen 2; have q2f3 := HKq2.out.frozen 3; have z0 := HKz.out.cell 0; have z1 := HKz.out.cell 1; have z2 := HKz.out.cell 2; have z3 := HKz.out.cell 3; have zf0 := HKz.out.frozen 0; have zf1 := HKz.out.frozen 1; have zf2 := HKz.out.frozen 2; have zf3 := HKz.out.frozen 3; clear hb1) | (go_at_call 76; with_reducible refine (HL1.out V HB.out).mono ?_; rintro e V ⟨rfl, hb1⟩; have HKq1 := Lib.hid (HKq1.out.keep hb1); have HKq2 := Lib.hid (HKq2.out.keep hb1); have HKz := Lib.hid (HKz.out.keep hb1); have HB := Lib.hid (below_step HB.out hb1); have q10 := HKq1.out.cell 0; have q11 := HKq1.out.cell 1; have q12 := HKq1.out.cell 2; have q13 := HKq1.out.cell 3; have q1f0 := HKq1.out.frozen 0; have q1f1 := HKq1.out.frozen 1; have q1f2 := HKq1.out.frozen 2; have q1f3 := HKq1.out.frozen 3; have q20 := HKq2.out.cell 0; have q21 := HKq2.out.cell 1; have q22 := HKq2.out.cell 2; have q23 := HKq2.out.cell 3; have q2f0 := HKq2.out.frozen 0; have q2f1 := HKq2.out.frozen 1; have q2f2 := HKq2.out.frozen 2; have q2f3 := HKq2.out.frozen 3; have z0 := HKz.out.cell 0; have z1 := HKz.out.cell 1; have z2 := HKz.out.cell 2; have z3 := HKz.out.cell 3; have zf0 := HKz.out.frozen 0; have zf1 := HKz.out.frozen 1; have zf2 := HKz.out.frozen 2; have zf3 := HKz.out.frozen 3; clear hb1) | (go_at_call 76; with_reducible refine (HL2.out V HB.out).mono ?_; rintro e V ⟨rfl, hb1⟩; have HKq1 := Lib.hid (HKq1.out.keep hb1); have HKq2 := Lib.hid (HKq2.out.keep hb1); have HKz := Lib.hid (HKz.out.keep hb1); have HB := Lib.hid (below_step HB.out hb1); have q10 := HKq1.out.cell 0; have q11 := HKq1.out.cell 1; have q12 := HKq1.out.cell 2; have q13 := HKq1.out.cell 3; have q1f0 := HKq1.out.frozen 0; have q1f1 := HKq1.out.frozen 1; have q1f2 := HKq1.out.frozen 2; have q1f3 := HKq1.out.frozen 3; have q20 := HKq2.out.cell 0; have q21 := HKq2.out.cell 1; have q22 := HKq2.out.cell 2; have q23 := HKq2.out.cell 3; have q2f0 := HKq2.out.frozen 0; have q2f1 := HKq2.out.frozen 1; have q2f2 := HKq2.out.frozen 2; have q2f3 := HKq2.out.frozen 3; have z0 := HKz.out.cell 0; have z1 := HKz.out.cell 1; have z2 := HKz.out.cell 2; have z3 := HKz.out.cell 3; have zf0 := HKz.out.frozen 0; have zf1 := HKz.out.frozen 1; have zf2 := HKz.out.frozen 2; have zf3 := HKz.out.frozen 3; clear hb1))
    have hB2 := HKz.out.set4 (.int .i64 0) (.int .i64 0) (.string ⟨#[]⟩) (.slice none 0 0)
    have y0 := hB2.cell 0
    have y1 := hB2.cell 1
    have y2 := hB2.cell 2
    have y3 := hB2.cell 3
    refine bodyPost_ret (v := .tuple #[.agg #[.int .i64 0, .int .i64 0, .string ⟨#[]⟩, .slice none 0 0], .string ⟨(sArg).toArray⟩]) (by simp [results, Tryz.results24, go_sem, y0, y1, y2, y3, sArg]) rfl ?_
    obtain ⟨g1, g2⟩ := fin4 (X := X) (p := W.heap.size + 1 + 1) HB.out (by omega) (tex_z _ _)
    exact ⟨_, rfl, g1, g2⟩
  | true =>
    cases y2 with
    | false =>
      rw [if_neg (fun h => by simp at h)]
      go_enter Tryz.func24, Tryz.ntmps24
      go_upto_region 1 with (fail)
      refine wp_world (fun V => Below W.heap.size W V ∧ Blk V (W.heap.size) 26 #[.int .i64 t1.kind, .int .i64 t1.int, .string ⟨t1.name.toArray⟩, .slice A1 n1 c1] ∧ Blk V (W.heap.size + 1) 26 #[.int .i64 t2.kind, .int .i64 t2.int, .string ⟨t2.name.toArray⟩, .slice A2 n2 c2] ∧ Blk V (W.heap.size + 1 + 1) 26 #[.int .i64 0, .int .i64 0, .string ⟨#[]⟩, .slice none 0 0]) ⟨below_step (below_step (below_alloc _ _) (below_alloc _ _)) (below_alloc _ _), (((Blk.newAt (by first | (with_reducible rfl) | simp)).alloc _).alloc _), ((Blk.newAt (by first | (with_reducible rfl) | simp)).alloc _), (Blk.newAt (by first | (with_reducible rfl) | simp))⟩ ?_
      rintro V ⟨hb, hq1, hq2, hz⟩
      have HB := Lib.hid hb
      have HKq1 := Lib.hid hq1
      have HKq2 := Lib.hid hq2
      have HKz := Lib.hid hz
      have q10 := HKq1.out.cell 0
      have q11 := HKq1.out.cell 1
      have q12 := HKq1.out.cell 2
      have q13 := HKq1.out.cell 3
      have q1f0 := HKq1.out.frozen 0
      have q1f1 := HKq1.out.frozen 1
      have q1f2 := HKq1.out.frozen 2
      have q1f3 := HKq1.out.frozen 3
      have q20 := HKq2.out.cell 0
      have q21 := HKq2.out.cell 1
      have q22 := HKq2.out.cell 2
      have q23 := HKq2.out.cell 3
      have q2f0 := HKq2.out.frozen 0
      have q2f1 := HKq2.out.frozen 1
      have q2f2 := HKq2.out.frozen 2
      have q2f3 := HKq2.out.frozen 3
      have z0 := HKz.out.cell 0
      have z1 := HKz.out.cell 1
      have z2 := HKz.out.cell 2
      have z3 := HKz.out.cell 3
      have zf0 := HKz.out.frozen 0
      have zf1 := HKz.out.frozen 1
      have zf2 := HKz.out.frozen 2
      have zf3 := HKz.out.frozen 3
      clear hb hq1 hq2 hz
      go_wp2_with (first | (go_at_call 27; refine (rcmp_v (X := (fun k => X k ∨ k = W.heap.size + 1 + 1)) (Y := (fun k => X k ∨ k = W.heap.size + 1 + 1)) (H1.out.up HB.out (by omega)) (H2.out.up HB.out (by omega))).mono ?_; rintro e V ⟨rfl, hb1⟩; have HKq1 := Lib.hid (HKq1.out.keep hb1); have HKq2 := Lib.hid (HKq2.out.keep hb1); have HKz := Lib.hid (HKz.out.keep hb1); have HB := Lib.hid (below_step HB.out hb1); have q10 := HKq1.out.cell 0; have q11 := HKq1.out.cell 1; have q12 := HKq1.out.cell 2; have q13 := HKq1.out.cell 3; have q1f0 := HKq1.out.frozen 0; have q1f1 := HKq1.out.frozen 1; have q1f2 := HKq1.out.frozen 2; have q1f3 := HKq1.out.frozen 3; have q20 := HKq2.out.cell 0; have q21 := HKq2.out.cell 1; have q22 := HKq2.out.cell 2; have q23 := HKq2.out.cell 3; have q2f0 := HKq2.out.frozen 0; have q2f1 := HKq2.out.frozen 1; have q2f2 := HKq2.out.frozen 2; have q2f3 := HKq2.out.frozen 3; have z0 := HKz.out.cell 0; have z1 := HKz.out.cell 1; have z2 := HKz.out.cell 2; have z3 := HKz.out.cell 3; have zf0 := HKz.out.frozen 0; have zf1 := HKz.out.frozen 1; have zf2 := HKz.out.frozen 2; have zf3 := HKz.out.frozen 3; clear hb1) | (go_at_call 76; with_reducible refine (HL1.out V HB.out).mono ?_; rintro e V ⟨rfl, hb1⟩; have HKq1 := Lib.hid (HKq1.out.keep hb1); have HKq2 := Lib.hid (HKq2.out.keep hb1); have HKz := Lib.hid (HKz.out.keep hb1); have HB := Lib.hid (below_step HB.out hb1); have q10 := HKq1.out.cell 0; have q11 := HKq1.out.cell 1; have q12 := HKq1.out.cell 2; have q13 := HKq1.out.cell 3; have q1f0 := HKq1.out.frozen 0; have q1f1 := HKq1.out.frozen 1; have q1f2 := HKq1.out.frozen 2; have q1f3 := HKq1.out.frozen 3; have q20 := HKq2.out.cell 0; have q21 := HKq2.out.cell 1; have q22 := HKq2.out.cell 2; have q23 := HKq2.out.cell 3; have q2f0 := HKq2.out.frozen 0; have q2f1 := HKq2.out.frozen 1; have q2f2 := HKq2.out.frozen 2; have q2f3 := HKq2.out.frozen 3; have z0 := HKz.out.cell 0; have z1 := HKz.out.cell 1; have z2 := HKz.out.cell 2; have z3 := HKz.out.cell 3; have zf0 := HKz.out.frozen 0; have zf1 := HKz.out.frozen 1; have zf2 := HKz.out.frozen 2; have zf3 := HKz.out.frozen 3; clear hb1) | (go_at_call 76; with_reducible refine (HL2.out V HB.out).mono ?_; rintro e V ⟨rfl, hb1⟩; have HKq1 := Lib.hid (HKq1.out.keep hb1); have HKq2 := Lib.hid (HKq2.out.keep hb1); have HKz := Lib.hid (HKz.out.keep hb1); have HB := Lib.hid (below_step HB.out hb1); have q10 := HKq1.out.cell 0; have q11 := HKq1.out.cell 1; have q12 := HKq1.out.cell 2; have q13 := HKq1.out.cell 3; have q1f0 := HKq1.out.frozen 0; have q1f1 := HKq1.out.frozen 1; have q1f2 := HKq1.out.frozen 2; have q1f3 := HKq1.out.frozen 3; have q20 := HKq2.out.cell 0; have q21 := HKq2.out.cell 1; have q22 := HKq2.out.cell 2; have q23 := HKq2.out.cell 3; have q2f0 := HKq2.out.frozen 0; have q2f1 := HKq2.out.frozen 1; have q2f2 := HKq2.out.frozen 2; have q2f3 := HKq2.out.frozen 3; have z0 := HKz.out.cell 0; have z1 := HKz.out.cell 1; have z2 := HKz.out.cell 2; have z3 := HKz.out.cell 3; have zf0 := HKz.out.frozen 0; have zf1 := HKz.out.frozen 1; have zf2 := HKz.out.frozen 2; have zf3 := HKz.out.frozen 3; clear hb1))
      have hB2 := HKz.out.set4 (.int .i64 0) (.int .i64 0) (.string ⟨#[]⟩) (.slice none 0 0)
      have y0 := hB2.cell 0
      have y1 := hB2.cell 1
      have y2 := hB2.cell 2
      have y3 := hB2.cell 3
      refine bodyPost_ret (v := .tuple #[.agg #[.int .i64 0, .int .i64 0, .string ⟨#[]⟩, .slice none 0 0], .string ⟨(sArg).toArray⟩]) (by simp [results, Tryz.results24, go_sem, y0, y1, y2, y3, sArg]) rfl ?_
      obtain ⟨g1, g2⟩ := fin4 (X := X) (p := W.heap.size + 1 + 1) HB.out (by omega) (tex_z _ _)
      exact ⟨_, rfl, g1, g2⟩
    | true =>
      rw [if_pos ⟨rfl, rfl⟩]
      cases x1 with
      | false =>
        rw [show (false && x2) = false by cases x2 <;> rfl]
        go_enter Tryz.func24, Tryz.ntmps24
        go_upto_region 1 with (fail)
        refine wp_world (fun V => Below W.heap.size W V ∧ Blk V (W.heap.size) 26 #[.int .i64 t1.kind, .int .i64 t1.int, .string ⟨t1.name.toArray⟩, .slice A1 n1 c1] ∧ Blk V (W.heap.size + 1) 26 #[.int .i64 t2.kind, .int .i64 t2.int, .string ⟨t2.name.toArray⟩, .slice A2 n2 c2] ∧ Blk V (W.heap.size + 1 + 1) 26 #[.int .i64 0, .int .i64 0, .string ⟨#[]⟩, .slice none 0 0]) ⟨below_step (below_step (below_alloc _ _) (below_alloc _ _)) (below_alloc _ _), (((Blk.newAt (by first | (with_reducible rfl) | simp)).alloc _).alloc _), ((Blk.newAt (by first | (with_reducible rfl) | simp)).alloc _), (Blk.newAt (by first | (with_reducible rfl) | simp))⟩ ?_
        rintro V ⟨hb, hq1, hq2, hz⟩
        have HB := Lib.hid hb
        have HKq1 := Lib.hid hq1
        have HKq2 := Lib.hid hq2
        have HKz := Lib.hid hz
        have q10 := HKq1.out.cell 0
        have q11 := HKq1.out.cell 1
        have q12 := HKq1.out.cell 2
        have q13 := HKq1.out.cell 3
        have q1f0 := HKq1.out.frozen 0
        have q1f1 := HKq1.out.frozen 1
        have q1f2 := HKq1.out.frozen 2
        have q1f3 := HKq1.out.frozen 3
        have q20 := HKq2.out.cell 0
        have q21 := HKq2.out.cell 1
        have q22 := HKq2.out.cell 2
        have q23 := HKq2.out.cell 3
        have q2f0 := HKq2.out.frozen 0
        have q2f1 := HKq2.out.frozen 1
        have q2f2 := HKq2.out.frozen 2
        have q2f3 := HKq2.out.frozen 3
        have z0 := HKz.out.cell 0
        have z1 := HKz.out.cell 1
        have z2 := HKz.out.cell 2
        have z3 := HKz.out.cell 3
        have zf0 := HKz.out.frozen 0
        have zf1 := HKz.out.frozen 1
        have zf2 := HKz.out.frozen 2
        have zf3 := HKz.out.frozen 3
        clear hb hq1 hq2 hz
        go_wp2_with (first | (go_at_call 27; refine (rcmp_v (X := (fun k => X k ∨ k = W.heap.size + 1 + 1)) (Y := (fun k => X k ∨ k = W.heap.size + 1 + 1)) (H1.out.up HB.out (by omega)) (H2.out.up HB.out (by omega))).mono ?_; rintro e V ⟨rfl, hb1⟩; have HKq1 := Lib.hid (HKq1.out.keep hb1); have HKq2 := Lib.hid (HKq2.out.keep hb1); have HKz := Lib.hid (HKz.out.keep hb1); have HB := Lib.hid (below_step HB.out hb1); have q10 := HKq1.out.cell 0; have q11 := HKq1.out.cell 1; have q12 := HKq1.out.cell 2; have q13 := HKq1.out.cell 3; have q1f0 := HKq1.out.frozen 0; have q1f1 := HKq1.out.frozen 1; have q1f2 := HKq1.out.frozen 2; have q1f3 := HKq1.out.frozen 3; have q20 := HKq2.out.cell 0; have q21 := HKq2.out.cell 1; have q22 := HKq2.out.cell 2; have q23 := HKq2.out.cell 3; have q2f0 := HKq2.out.frozen 0; have q2f1 := HKq2.out.frozen 1; have q2f2 := HKq2.out.frozen 2; have q2f3 := HKq2.out.frozen 3; have z0 := HKz.out.cell 0; have z1 := HKz.out.cell 1; have z2 := HKz.out.cell 2; have z3 := HKz.out.cell 3; have zf0 := HKz.out.frozen 0; have zf1 := HKz.out.frozen 1; have zf2 := HKz.out.frozen 2; have zf3 := HKz.out.frozen 3; clear hb1) | (go_at_call 76; with_reducible refine (HL1.out V HB.out).mono ?_; rintro e V ⟨rfl, hb1⟩; have HKq1 := Lib.hid (HKq1.out.keep hb1); have HKq2 := Lib.hid (HKq2.out.keep hb1); have HKz := Lib.hid (HKz.out.keep hb1); have HB := Lib.hid (below_step HB.out hb1); have q10 := HKq1.out.cell 0; have q11 := HKq1.out.cell 1; have q12 := HKq1.out.cell 2; have q13 := HKq1.out.cell 3; have q1f0 := HKq1.out.frozen 0; have q1f1 := HKq1.out.frozen 1; have q1f2 := HKq1.out.frozen 2; have q1f3 := HKq1.out.frozen 3; have q20 := HKq2.out.cell 0; have q21 := HKq2.out.cell 1; have q22 := HKq2.out.cell 2; have q23 := HKq2.out.cell 3; have q2f0 := HKq2.out.frozen 0; have q2f1 := HKq2.out.frozen 1; have q2f2 := HKq2.out.frozen 2; have q2f3 := HKq2.out.frozen 3; have z0 := HKz.out.cell 0; have z1 := HKz.out.cell 1; have z2 := HKz.out.cell 2; have z3 := HKz.out.cell 3; have zf0 := HKz.out.frozen 0; have zf1 := HKz.out.frozen 1; have zf2 := HKz.out.frozen 2; have zf3 := HKz.out.frozen 3; clear hb1) | (go_at_call 76; with_reducible refine (HL2.out V HB.out).mono ?_; rintro e V ⟨rfl, hb1⟩; have HKq1 := Lib.hid (HKq1.out.keep hb1); have HKq2 := Lib.hid (HKq2.out.keep hb1); have HKz := Lib.hid (HKz.out.keep hb1); have HB := Lib.hid (below_step HB.out hb1); have q10 := HKq1.out.cell 0; have q11 := HKq1.out.cell 1; have q12 := HKq1.out.cell 2; have q13 := HKq1.out.cell 3; have q1f0 := HKq1.out.frozen 0; have q1f1 := HKq1.out.frozen 1; have q1f2 := HKq1.out.frozen 2; have q1f3 := HKq1.out.frozen 3; have q20 := HKq2.out.cell 0; have q21 := HKq2.out.cell 1; have q22 := HKq2.out.cell 2; have q23 := HKq2.out.cell 3; have q2f0 := HKq2.out.frozen 0; have q2f1 := HKq2.out.frozen 1; have q2f2 := HKq2.out.frozen 2; have q2f3 := HKq2.out.frozen 3; have z0 := HKz.out.cell 0; have z1 := HKz.out.cell 1; have z2 := HKz.out.cell 2; have z3 := HKz.out.cell 3; have zf0 := HKz.out.frozen 0; have zf1 := HKz.out.frozen 1; have zf2 := HKz.out.frozen 2; have zf3 := HKz.out.frozen 3; clear hb1) | (go_at_call 77; refine (rtruth_v (fun k => X k ∨ k = W.heap.size + 1 + 1) false V).mono ?_; rintro e w1 ⟨v, rfl, hT, hb1⟩; obtain ⟨A9, n9, c9, rfl, hn⟩ := hT.form; have HT := Lib.hid hT; have HKq1 := Lib.hid (HKq1.out.keep hb1); have HKq2 := Lib.hid (HKq2.out.keep hb1); have HKz := Lib.hid (HKz.out.keep hb1); have HB := Lib.hid (below_step HB.out hb1); have q10 := HKq1.out.cell 0; have q11 := HKq1.out.cell 1; have q12 := HKq1.out.cell 2; have q13 := HKq1.out.cell 3; have q1f0 := HKq1.out.frozen 0; have q1f1 := HKq1.out.frozen 1; have q1f2 := HKq1.out.frozen 2; have q1f3 := HKq1.out.frozen 3; have q20 := HKq2.out.cell 0; have q21 := HKq2.out.cell 1; have q22 := HKq2.out.cell 2; have q23 := HKq2.out.cell 3; have q2f0 := HKq2.out.frozen 0; have q2f1 := HKq2.out.frozen 1; have q2f2 := HKq2.out.frozen 2; have q2f3 := HKq2.out.frozen 3; have z0 := HKz.out.cell 0; have z1 := HKz.out.cell 1; have z2 := HKz.out.cell 2; have z3 := HKz.out.cell 3; have zf0 := HKz.out.frozen 0; have zf1 := HKz.out.frozen 1; have zf2 := HKz.out.frozen 2; have zf3 := HKz.out.frozen 3; clear hn hT hb1))
        have hB2 := HKz.out.set4 (.int .i64 ((truT false)).kind) (.int .i64 ((truT false)).int) (.string ⟨((truT false)).name.toArray⟩) (.slice A9 n9 c9)
        have y0 := hB2.cell 0
        have y1 := hB2.cell 1
        have y2 := hB2.cell 2
        have y3 := hB2.cell 3
        refine bodyPost_ret (v := .tuple #[.agg #[.int .i64 ((truT false)).kind, .int .i64 ((truT false)).int, .string ⟨((truT false)).name.toArray⟩, .slice A9 n9 c9], .string ⟨(([] : List UInt8)).toArray⟩]) (by simp [results, Tryz.results24, go_sem, y0, y1, y2, y3]) rfl ?_
        obtain ⟨g1, g2⟩ := fin4 (X := X) HB.out (by omega) HT.out
        exact ⟨_, rfl, g1, g2⟩
      | true =>
        rw [show (true && x2) = x2 by cases x2 <;> rfl]
        go_enter Tryz.func24, Tryz.ntmps24
        go_upto_region 1 with (fail)
        refine wp_world (fun V => Below W.heap.size W V ∧ Blk V (W.heap.size) 26 #[.int .i64 t1.kind, .int .i64 t1.int, .string ⟨t1.name.toArray⟩, .slice A1 n1 c1] ∧ Blk V (W.heap.size + 1) 26 #[.int .i64 t2.kind, .int .i64 t2.int, .string ⟨t2.name.toArray⟩, .slice A2 n2 c2] ∧ Blk V (W.heap.size + 1 + 1) 26 #[.int .i64 0, .int .i64 0, .string ⟨#[]⟩, .slice none 0 0]) ⟨below_step (below_step (below_alloc _ _) (below_alloc _ _)) (below_alloc _ _), (((Blk.newAt (by first | (with_reducible rfl) | simp)).alloc _).alloc _), ((Blk.newAt (by first | (with_reducible rfl) | simp)).alloc _), (Blk.newAt (by first | (with_reducible rfl) | simp))⟩ ?_
        rintro V ⟨hb, hq1, hq2, hz⟩
        have HB := Lib.hid hb
        have HKq1 := Lib.hid hq1
        have HKq2 := Lib.hid hq2
        have HKz := Lib.hid hz
        have q10 := HKq1.out.cell 0
        have q11 := HKq1.out.cell 1
        have q12 := HKq1.out.cell 2
        have q13 := HKq1.out.cell 3
        have q1f0 := HKq1.out.frozen 0
        have q1f1 := HKq1.out.frozen 1
        have q1f2 := HKq1.out.frozen 2
        have q1f3 := HKq1.out.frozen 3
        have q20 := HKq2.out.cell 0
        have q21 := HKq2.out.cell 1
        have q22 := HKq2.out.cell 2
        have q23 := HKq2.out.cell 3
        have q2f0 := HKq2.out.frozen 0
        have q2f1 := HKq2.out.frozen 1
        have q2f2 := HKq2.out.frozen 2
        have q2f3 := HKq2.out.frozen 3
        have z0 := HKz.out.cell 0
        have z1 := HKz.out.cell 1
        have z2 := HKz.out.cell 2
        have z3 := HKz.out.cell 3
        have zf0 := HKz.out.frozen 0
        have zf1 := HKz.out.frozen 1
        have zf2 := HKz.out.frozen 2
        have zf3 := HKz.out.frozen 3
        clear hb hq1 hq2 hz
        go_wp2_with (first | (go_at_call 27; refine (rcmp_v (X := (fun k => X k ∨ k = W.heap.size + 1 + 1)) (Y := (fun k => X k ∨ k = W.heap.size + 1 + 1)) (H1.out.up HB.out (by omega)) (H2.out.up HB.out (by omega))).mono ?_; rintro e V ⟨rfl, hb1⟩; have HKq1 := Lib.hid (HKq1.out.keep hb1); have HKq2 := Lib.hid (HKq2.out.keep hb1); have HKz := Lib.hid (HKz.out.keep hb1); have HB := Lib.hid (below_step HB.out hb1); have q10 := HKq1.out.cell 0; have q11 := HKq1.out.cell 1; have q12 := HKq1.out.cell 2; have q13 := HKq1.out.cell 3; have q1f0 := HKq1.out.frozen 0; have q1f1 := HKq1.out.frozen 1; have q1f2 := HKq1.out.frozen 2; have q1f3 := HKq1.out.frozen 3; have q20 := HKq2.out.cell 0; have q21 := HKq2.out.cell 1; have q22 := HKq2.out.cell 2; have q23 := HKq2.out.cell 3; have q2f0 := HKq2.out.frozen 0; have q2f1 := HKq2.out.frozen 1; have q2f2 := HKq2.out.frozen 2; have q2f3 := HKq2.out.frozen 3; have z0 := HKz.out.cell 0; have z1 := HKz.out.cell 1; have z2 := HKz.out.cell 2; have z3 := HKz.out.cell 3; have zf0 := HKz.out.frozen 0; have zf1 := HKz.out.frozen 1; have zf2 := HKz.out.frozen 2; have zf3 := HKz.out.frozen 3; clear hb1) | (go_at_call 76; with_reducible refine (HL1.out V HB.out).mono ?_; rintro e V ⟨rfl, hb1⟩; have HKq1 := Lib.hid (HKq1.out.keep hb1); have HKq2 := Lib.hid (HKq2.out.keep hb1); have HKz := Lib.hid (HKz.out.keep hb1); have HB := Lib.hid (below_step HB.out hb1); have q10 := HKq1.out.cell 0; have q11 := HKq1.out.cell 1; have q12 := HKq1.out.cell 2; have q13 := HKq1.out.cell 3; have q1f0 := HKq1.out.frozen 0; have q1f1 := HKq1.out.frozen 1; have q1f2 := HKq1.out.frozen 2; have q1f3 := HKq1.out.frozen 3; have q20 := HKq2.out.cell 0; have q21 := HKq2.out.cell 1; have q22 := HKq2.out.cell 2; have q23 := HKq2.out.cell 3; have q2f0 := HKq2.out.frozen 0; have q2f1 := HKq2.out.frozen 1; have q2f2 := HKq2.out.frozen 2; have q2f3 := HKq2.out.frozen 3; have z0 := HKz.out.cell 0; have z1 := HKz.out.cell 1; have z2 := HKz.out.cell 2; have z3 := HKz.out.cell 3; have zf0 := HKz.out.frozen 0; have zf1 := HKz.out.frozen 1; have zf2 := HKz.out.frozen 2; have zf3 := HKz.out.frozen 3; clear hb1) | (go_at_call 76; with_reducible refine (HL2.out V HB.out).mono ?_; rintro e V ⟨rfl, hb1⟩; have HKq1 := Lib.hid (HKq1.out.keep hb1); have HKq2 := Lib.hid (HKq2.out.keep hb1); have HKz := Lib.hid (HKz.out.keep hb1); have HB := Lib.hid (below_step HB.out hb1); have q10 := HKq1.out.cell 0; have q11 := HKq1.out.cell 1; have q12 := HKq1.out.cell 2; have q13 := HKq1.out.cell 3; have q1f0 := HKq1.out.frozen 0; have q1f1 := HKq1.out.frozen 1; have q1f2 := HKq1.out.frozen 2; have q1f3 := HKq1.out.frozen 3; have q20 := HKq2.out.cell 0; have q21 := HKq2.out.cell 1; have q22 := HKq2.out.cell 2; have q23 := HKq2.out.cell 3; have q2f0 := HKq2.out.frozen 0; have q2f1 := HKq2.out.frozen 1; have q2f2 := HKq2.out.frozen 2; have q2f3 := HKq2.out.frozen 3; have z0 := HKz.out.cell 0; have z1 := HKz.out.cell 1; have z2 := HKz.out.cell 2; have z3 := HKz.out.cell 3; have zf0 := HKz.out.frozen 0; have zf1 := HKz.out.frozen 1; have zf2 := HKz.out.frozen 2; have zf3 := HKz.out.frozen 3; clear hb1) | (go_at_call 77; refine (rtruth_v (fun k => X k ∨ k = W.heap.size + 1 + 1) x2 V).mono ?_; rintro e w1 ⟨v, rfl, hT, hb1⟩; obtain ⟨A9, n9, c9, rfl, hn⟩ := hT.form; have HT := Lib.hid hT; have HKq1 := Lib.hid (HKq1.out.keep hb1); have HKq2 := Lib.hid (HKq2.out.keep hb1); have HKz := Lib.hid (HKz.out.keep hb1); have HB := Lib.hid (below_step HB.out hb1); have q10 := HKq1.out.cell 0; have q11 := HKq1.out.cell 1; have q12 := HKq1.out.cell 2; have q13 := HKq1.out.cell 3; have q1f0 := HKq1.out.frozen 0; have q1f1 := HKq1.out.frozen 1; have q1f2 := HKq1.out.frozen 2; have q1f3 := HKq1.out.frozen 3; have q20 := HKq2.out.cell 0; have q21 := HKq2.out.cell 1; have q22 := HKq2.out.cell 2; have q23 := HKq2.out.cell 3; have q2f0 := HKq2.out.frozen 0; have q2f1 := HKq2.out.frozen 1; have q2f2 := HKq2.out.frozen 2; have q2f3 := HKq2.out.frozen 3; have z0 := HKz.out.cell 0; have z1 := HKz.out.cell 1; have z2 := HKz.out.cell 2; have z3 := HKz.out.cell 3; have zf0 := HKz.out.frozen 0; have zf1 := HKz.out.frozen 1; have zf2 := HKz.out.frozen 2; have zf3 := HKz.out.frozen 3; clear hn hT hb1))
        have hB2 := HKz.out.set4 (.int .i64 ((truT x2)).kind) (.int .i64 ((truT x2)).int) (.string ⟨((truT x2)).name.toArray⟩) (.slice A9 n9 c9)
        have y0 := hB2.cell 0
        have y1 := hB2.cell 1
        have y2 := hB2.cell 2
        have y3 := hB2.cell 3
        refine bodyPost_ret (v := .tuple #[.agg #[.int .i64 ((truT x2)).kind, .int .i64 ((truT x2)).int, .string ⟨((truT x2)).name.toArray⟩, .slice A9 n9 c9], .string ⟨(([] : List UInt8)).toArray⟩]) (by simp [results, Tryz.results24, go_sem, y0, y1, y2, y3]) rfl ?_
        obtain ⟨g1, g2⟩ := fin4 (X := X) HB.out (by omega) HT.out
        exact ⟨_, rfl, g1, g2⟩
set_option maxRecDepth 100000 in
set_option maxHeartbeats 1000000 in
theorem rtwo_or {X : Nat → Prop} (hX : ∀ k, X k → k < W.heap.size) (h1 : TEx X W u1 t1) (h2 : TEx X W u2 t2) : Calls Tryz.prog 24 #[.string ⟨#[111, 114]⟩, u1, u2] W (R2 X W ((if (lgP t1).2 = true ∧ (lgP t2).2 = true then (truT ((lgP t1).1 || (lgP t2).1), []) else (tZ, sArg)))) := by
  obtain ⟨A1, n1, c1, rfl, hn1⟩ := h1.form
  have H1 := Lib.hid h1
  have HN1 := Lib.hid hn1
  obtain ⟨A2, n2, c2, rfl, hn2⟩ := h2.form
  have H2 := Lib.hid h2
  have HN2 := Lib.hid hn2
  have HX := Lib.hid hX
  clear h1 hn1 h2 hn2 hX
  have HL1 : Hid (∀ V, Below W.heap.size W V → Calls Tryz.prog 76 #[.agg #[.int .i64 t1.kind, .int .i64 t1.int, .string ⟨t1.name.toArray⟩, .slice A1 n1 c1]] V fun e w' => e = .returned (.tuple #[.bool (lgP t1).1, .bool (lgP t1).2]) ∧ Below V.heap.size V w') := fun V hb => rlogic_v (X := X) (fun k hk => Nat.lt_of_lt_of_le (HX.out k hk) hb.size) (H1.out.below hb)
  have HL2 : Hid (∀ V, Below W.heap.size W V → Calls Tryz.prog 76 #[.agg #[.int .i64 t2.kind, .int .i64 t2.int, .string ⟨t2.name.toArray⟩, .slice A2 n2 c2]] V fun e w' => e = .returned (.tuple #[.bool (lgP t2).1, .bool (lgP t2).2]) ∧ Below V.heap.size V w') := fun V hb => rlogic_v (X := X) (fun k hk => Nat.lt_of_lt_of_le (HX.out k hk) hb.size) (H2.out.below hb)
  obtain ⟨x1, y1, hp1⟩ : ∃ x y, lgP t1 = (x, y) := ⟨_, _, rfl⟩
  obtain ⟨x2, y2, hp2⟩ : ∃ x y, lgP t2 = (x, y) := ⟨_, _, rfl⟩
  rw [hp1] at HL1 ⊢
  rw [hp2] at HL2 ⊢
  clear hp1 hp2
  cases y1 with
  | false =>
    rw [if_neg (fun h => by simp at h)]
    go_enter Tryz.func24, Tryz.ntmps24
    go_upto_region 1 with (fail)
    refine wp_world (fun V => Below W.heap.size W V ∧ Blk V (W.heap.size) 26 #[.int .i64 t1.kind, .int .i64 t1.int, .string ⟨t1.name.toArray⟩, .slice A1 n1 c1] ∧ Blk V (W.heap.size + 1) 26 #[.int .i64 t2.kind, .int .i64 t2.int, .string ⟨t2.name.toArray⟩, .slice A2 n2 c2] ∧ Blk V (W.heap.size + 1 + 1) 26 #[.int .i64 0, .int .i64 0, .string ⟨#[]⟩, .slice none 0 0]) ⟨below_step (below_step (below_alloc _ _) (below_alloc _ _)) (below_alloc _ _), (((Blk.newAt (by first | (with_reducible rfl) | simp)).alloc _).alloc _), ((Blk.newAt (by first | (with_reducible rfl) | simp)).alloc _), (Blk.newAt (by first | (with_reducible rfl) | simp))⟩ ?_
    rintro V ⟨hb, hq1, hq2, hz⟩
    have HB := Lib.hid hb
    have HKq1 := Lib.hid hq1
    have HKq2 := Lib.hid hq2
    have HKz := Lib.hid hz
    have q10 := HKq1.out.cell 0
    have q11 := HKq1.out.cell 1
    have q12 := HKq1.out.cell 2
    have q13 := HKq1.out.cell 3
    have q1f0 := HKq1.out.frozen 0
    have q1f1 := HKq1.out.frozen 1
    have q1f2 := HKq1.out.frozen 2
    have q1f3 := HKq1.out.frozen 3
    have q20 := HKq2.out.cell 0
    have q21 := HKq2.out.cell 1
    have q22 := HKq2.out.cell 2
    have q23 := HKq2.out.cell 3
    have q2f0 := HKq2.out.frozen 0
    have q2f1 := HKq2.out.frozen 1
    have q2f2 := HKq2.out.frozen 2
    have q2f3 := HKq2.out.frozen 3
    have z0 := HKz.out.cell 0
    have z1 := HKz.out.cell 1
    have z2 := HKz.out.cell 2
    have z3 := HKz.out.cell 3
    have zf0 := HKz.out.frozen 0
    have zf1 := HKz.out.frozen 1
    have zf2 := HKz.out.frozen 2
    have zf3 := HKz.out.frozen 3
    clear hb hq1 hq2 hz
    go_wp2_with (first | (go_at_call 27; refine (rcmp_v (X := (fun k => X k ∨ k = W.heap.size + 1 + 1)) (Y := (fun k => X k ∨ k = W.heap.size + 1 + 1)) (H1.out.up HB.out (by omega)) (H2.out.up HB.out (by omega))).mono ?_; rintro e V ⟨rfl, hb1⟩; have HKq1 := Lib.hid (HKq1.out.keep hb1); have HKq2 := Lib.hid (HKq2.out.keep hb1); have HKz := Lib.hid (HKz.out.keep hb1); have HB := Lib.hid (below_step HB.out hb1); have q10 := HKq1.out.cell 0; have q11 := HKq1.out.cell 1; have q12 := HKq1.out.cell 2; have q13 := HKq1.out.cell 3; have q1f0 := HKq1.out.frozen 0; have q1f1 := HKq1.out.frozen 1; have q1f2 := HKq1.out.frozen 2; have q1f3 := HKq1.out.frozen 3; have q20 := HKq2.out.cell 0; have q21 := HKq2.out.cell 1; have q22 := HKq2.out.cell 2; have q23 := HKq2.out.cell 3; have q2f0 := HKq2.out.frozen 0; have q2f1 := HKq2.out.frozen 1; have q2f2 := HKq2.out.frozen 2; have q2f3 := HKq2.out.frozen 3; have z0 := HKz.out.cell 0; have z1 := HKz.out.cell 1; have z2 := HKz.out.cell 2; have z3 := HKz.out.cell 3; have zf0 := HKz.out.frozen 0; have zf1 := HKz.out.frozen 1; have zf2 := HKz.out.frozen 2; have zf3 := HKz.out.frozen 3; clear hb1) | (go_at_call 76; with_reducible refine (HL1.out V HB.out).mono ?_; rintro e V ⟨rfl, hb1⟩; have HKq1 := Lib.hid (HKq1.out.keep hb1); have HKq2 := Lib.hid (HKq2.out.keep hb1); have HKz := Lib.hid (HKz.out.keep hb1); have HB := Lib.hid (below_step HB.out hb1); have q10 := HKq1.out.cell 0; have q11 := HKq1.out.cell 1; have q12 := HKq1.out.cell 2; have q13 := HKq1.out.cell 3; have q1f0 := HKq1.out.frozen 0; have q1f1 := HKq1.out.frozen 1; have q1f2 := HKq1.out.frozen 2; have q1f3 := HKq1.out.frozen 3; have q20 := HKq2.out.cell 0; have q21 := HKq2.out.cell 1; have q22 := HKq2.out.cell 2; have q23 := HKq2.out.cell 3; have q2f0 := HKq2.out.frozen 0; have q2f1 := HKq2.out.frozen 1; have q2f2 := HKq2.out.frozen 2; have q2f3 := HKq2.out.frozen 3; have z0 := HKz.out.cell 0; have z1 := HKz.out.cell 1; have z2 := HKz.out.cell 2; have z3 := HKz.out.cell 3; have zf0 := HKz.out.frozen 0; have zf1 := HKz.out.frozen 1; have zf2 := HKz.out.frozen 2; have zf3 := HKz.out.frozen 3; clear hb1) | (go_at_call 76; with_reducible refine (HL2.out V HB.out).mono ?_; rintro e V ⟨rfl, hb1⟩; have HKq1 := Lib.hid (HKq1.out.keep hb1); have HKq2 := Lib.hid (HKq2.out.keep hb1); have HKz := Lib.hid (HKz.out.keep hb1); have HB := Lib.hid (below_step HB.out hb1); have q10 := HKq1.out.cell 0; have q11 := HKq1.out.cell 1; have q12 := HKq1.out.cell 2; have q13 := HKq1.out.cell 3; have q1f0 := HKq1.out.frozen 0; have q1f1 := HKq1.out.frozen 1; have q1f2 := HKq1.out.frozen 2; have q1f3 := HKq1.out.frozen 3; have q20 := HKq2.out.cell 0; have q21 := HKq2.out.cell 1; have q22 := HKq2.out.cell 2; have q23 := HKq2.out.cell 3; have q2f0 := HKq2.out.frozen 0; have q2f1 := HKq2.out.frozen 1; have q2f2 := HKq2.out.frozen 2; have q2f3 := HKq2.out.frozen 3; have z0 := HKz.out.cell 0; have z1 := HKz.out.cell 1; have z2 := HKz.out.cell 2; have z3 := HKz.out.cell 3; have zf0 := HKz.out.frozen 0; have zf1 := HKz.out.frozen 1; have zf2 := HKz.out.frozen 2; have zf3 := HKz.out.frozen 3; clear hb1))
    have hB2 := HKz.out.set4 (.int .i64 0) (.int .i64 0) (.string ⟨#[]⟩) (.slice none 0 0)
    have y0 := hB2.cell 0
    have y1 := hB2.cell 1
    have y2 := hB2.cell 2
    have y3 := hB2.cell 3
    refine bodyPost_ret (v := .tuple #[.agg #[.int .i64 0, .int .i64 0, .string ⟨#[]⟩, .slice none 0 0], .string ⟨(sArg).toArray⟩]) (by simp [results, Tryz.results24, go_sem, y0, y1, y2, y3, sArg]) rfl ?_
    obtain ⟨g1, g2⟩ := fin4 (X := X) (p := W.heap.size + 1 + 1) HB.out (by omega) (tex_z _ _)
    exact ⟨_, rfl, g1, g2⟩
  | true =>
    cases y2 with
    | false =>
      rw [if_neg (fun h => by simp at h)]
      go_enter Tryz.func24, Tryz.ntmps24
      go_upto_region 1 with (fail)
      refine wp_world (fun V => Below W.heap.size W V ∧ Blk V (W.heap.size) 26 #[.int .i64 t1.kind, .int .i64 t1.int, .string ⟨t1.name.toArray⟩, .slice A1 n1 c1] ∧ Blk V (W.heap.size + 1) 26 #[.int .i64 t2.kind, .int .i64 t2.int, .string ⟨t2.name.toArray⟩, .slice A2 n2 c2] ∧ Blk V (W.heap.size + 1 + 1) 26 #[.int .i64 0, .int .i64 0, .string ⟨#[]⟩, .slice none 0 0]) ⟨below_step (below_step (below_alloc _ _) (below_alloc _ _)) (below_alloc _ _), (((Blk.newAt (by first | (with_reducible rfl) | simp)).alloc _).alloc _), ((Blk.newAt (by first | (with_reducible rfl) | simp)).alloc _), (Blk.newAt (by first | (with_reducible rfl) | simp))⟩ ?_
      rintro V ⟨hb, hq1, hq2, hz⟩
      have HB := Lib.hid hb
      have HKq1 := Lib.hid hq1
      have HKq2 := Lib.hid hq2
      have HKz := Lib.hid hz
      have q10 := HKq1.out.cell 0
      have q11 := HKq1.out.cell 1
      have q12 := HKq1.out.cell 2
      have q13 := HKq1.out.cell 3
      have q1f0 := HKq1.out.frozen 0
      have q1f1 := HKq1.out.frozen 1
      have q1f2 := HKq1.out.frozen 2
      have q1f3 := HKq1.out.frozen 3
      have q20 := HKq2.out.cell 0
      have q21 := HKq2.out.cell 1
      have q22 := HKq2.out.cell 2
      have q23 := HKq2.out.cell 3
      have q2f0 := HKq2.out.frozen 0
      have q2f1 := HKq2.out.frozen 1
      have q2f2 := HKq2.out.frozen 2
      have q2f3 := HKq2.out.frozen 3
      have z0 := HKz.out.cell 0
      have z1 := HKz.out.cell 1
      have z2 := HKz.out.cell 2
      have z3 := HKz.out.cell 3
      have zf0 := HKz.out.frozen 0
      have zf1 := HKz.out.frozen 1
      have zf2 := HKz.out.frozen 2
      have zf3 := HKz.out.frozen 3
      clear hb hq1 hq2 hz
      go_wp2_with (first | (go_at_call 27; refine (rcmp_v (X := (fun k => X k ∨ k = W.heap.size + 1 + 1)) (Y := (fun k => X k ∨ k = W.heap.size + 1 + 1)) (H1.out.up HB.out (by omega)) (H2.out.up HB.out (by omega))).mono ?_; rintro e V ⟨rfl, hb1⟩; have HKq1 := Lib.hid (HKq1.out.keep hb1); have HKq2 := Lib.hid (HKq2.out.keep hb1); have HKz := Lib.hid (HKz.out.keep hb1); have HB := Lib.hid (below_step HB.out hb1); have q10 := HKq1.out.cell 0; have q11 := HKq1.out.cell 1; have q12 := HKq1.out.cell 2; have q13 := HKq1.out.cell 3; have q1f0 := HKq1.out.frozen 0; have q1f1 := HKq1.out.frozen 1; have q1f2 := HKq1.out.frozen 2; have q1f3 := HKq1.out.frozen 3; have q20 := HKq2.out.cell 0; have q21 := HKq2.out.cell 1; have q22 := HKq2.out.cell 2; have q23 := HKq2.out.cell 3; have q2f0 := HKq2.out.frozen 0; have q2f1 := HKq2.out.frozen 1; have q2f2 := HKq2.out.frozen 2; have q2f3 := HKq2.out.frozen 3; have z0 := HKz.out.cell 0; have z1 := HKz.out.cell 1; have z2 := HKz.out.cell 2; have z3 := HKz.out.cell 3; have zf0 := HKz.out.frozen 0; have zf1 := HKz.out.frozen 1; have zf2 := HKz.out.frozen 2; have zf3 := HKz.out.frozen 3; clear hb1) | (go_at_call 76; with_reducible refine (HL1.out V HB.out).mono ?_; rintro e V ⟨rfl, hb1⟩; have HKq1 := Lib.hid (HKq1.out.keep hb1); have HKq2 := Lib.hid (HKq2.out.keep hb1); have HKz := Lib.hid (HKz.out.keep hb1); have HB := Lib.hid (below_step HB.out hb1); have q10 := HKq1.out.cell 0; have q11 := HKq1.out.cell 1; have q12 := HKq1.out.cell 2; have q13 := HKq1.out.cell 3; have q1f0 := HKq1.out.frozen 0; have q1f1 := HKq1.out.frozen 1; have q1f2 := HKq1.out.frozen 2; have q1f3 := HKq1.out.frozen 3; have q20 := HKq2.out.cell 0; have q21 := HKq2.out.cell 1; have q22 := HKq2.out.cell 2; have q23 := HKq2.out.cell 3; have q2f0 := HKq2.out.frozen 0; have q2f1 := HKq2.out.frozen 1; have q2f2 := HKq2.out.frozen 2; have q2f3 := HKq2.out.frozen 3; have z0 := HKz.out.cell 0; have z1 := HKz.out.cell 1; have z2 := HKz.out.cell 2; have z3 := HKz.out.cell 3; have zf0 := HKz.out.frozen 0; have zf1 := HKz.out.frozen 1; have zf2 := HKz.out.frozen 2; have zf3 := HKz.out.frozen 3; clear hb1) | (go_at_call 76; with_reducible refine (HL2.out V HB.out).mono ?_; rintro e V ⟨rfl, hb1⟩; have HKq1 := Lib.hid (HKq1.out.keep hb1); have HKq2 := Lib.hid (HKq2.out.keep hb1); have HKz := Lib.hid (HKz.out.keep hb1); have HB := Lib.hid (below_step HB.out hb1); have q10 := HKq1.out.cell 0; have q11 := HKq1.out.cell 1; have q12 := HKq1.out.cell 2; have q13 := HKq1.out.cell 3; have q1f0 := HKq1.out.frozen 0; have q1f1 := HKq1.out.frozen 1; have q1f2 := HKq1.out.frozen 2; have q1f3 := HKq1.out.frozen 3; have q20 := HKq2.out.cell 0; have q21 := HKq2.out.cell 1; have q22 := HKq2.out.cell 2; have q23 := HKq2.out.cell 3; have q2f0 := HKq2.out.frozen 0; have q2f1 := HKq2.out.frozen 1; have q2f2 := HKq2.out.frozen 2; have q2f3 := HKq2.out.frozen 3; have z0 := HKz.out.cell 0; have z1 := HKz.out.cell 1; have z2 := HKz.out.cell 2; have z3 := HKz.out.cell 3; have zf0 := HKz.out.frozen 0; have zf1 := HKz.out.frozen 1; have zf2 := HKz.out.frozen 2; have zf3 := HKz.out.frozen 3; clear hb1))
      have hB2 := HKz.out.set4 (.int .i64 0) (.int .i64 0) (.string ⟨#[]⟩) (.slice none 0 0)
      have y0 := hB2.cell 0
      have y1 := hB2.cell 1
      have y2 := hB2.cell 2
      have y3 := hB2.cell 3
      refine bodyPost_ret (v := .tuple #[.agg #[.int .i64 0, .int .i64 0, .string ⟨#[]⟩, .slice none 0 0], .string ⟨(sArg).toArray⟩]) (by simp [results, Tryz.results24, go_sem, y0, y1, y2, y3, sArg]) rfl ?_
      obtain ⟨g1, g2⟩ := fin4 (X := X) (p := W.heap.size + 1 + 1) HB.out (by omega) (tex_z _ _)
      exact ⟨_, rfl, g1, g2⟩
    | true =>
      rw [if_pos ⟨rfl, rfl⟩]
      cases x1 with
      | false =>
        rw [show (false || x2) = x2 by cases x2 <;> rfl]
        go_enter Tryz.func24, Tryz.ntmps24
        go_upto_region 1 with (fail)
        refine wp_world (fun V => Below W.heap.size W V ∧ Blk V (W.heap.size) 26 #[.int .i64 t1.kind, .int .i64 t1.int, .string ⟨t1.name.toArray⟩, .slice A1 n1 c1] ∧ Blk V (W.heap.size + 1) 26 #[.int .i64 t2.kind, .int .i64 t2.int, .string ⟨t2.name.toArray⟩, .slice A2 n2 c2] ∧ Blk V (W.heap.size + 1 + 1) 26 #[.int .i64 0, .int .i64 0, .string ⟨#[]⟩, .slice none 0 0]) ⟨below_step (below_step (below_alloc _ _) (below_alloc _ _)) (below_alloc _ _), (((Blk.newAt (by first | (with_reducible rfl) | simp)).alloc _).alloc _), ((Blk.newAt (by first | (with_reducible rfl) | simp)).alloc _), (Blk.newAt (by first | (with_reducible rfl) | simp))⟩ ?_
        rintro V ⟨hb, hq1, hq2, hz⟩
        have HB := Lib.hid hb
        have HKq1 := Lib.hid hq1
        have HKq2 := Lib.hid hq2
        have HKz := Lib.hid hz
        have q10 := HKq1.out.cell 0
        have q11 := HKq1.out.cell 1
        have q12 := HKq1.out.cell 2
        have q13 := HKq1.out.cell 3
        have q1f0 := HKq1.out.frozen 0
        have q1f1 := HKq1.out.frozen 1
        have q1f2 := HKq1.out.frozen 2
        have q1f3 := HKq1.out.frozen 3
        have q20 := HKq2.out.cell 0
        have q21 := HKq2.out.cell 1
        have q22 := HKq2.out.cell 2
        have q23 := HKq2.out.cell 3
        have q2f0 := HKq2.out.frozen 0
        have q2f1 := HKq2.out.frozen 1
        have q2f2 := HKq2.out.frozen 2
        have q2f3 := HKq2.out.frozen 3
        have z0 := HKz.out.cell 0
        have z1 := HKz.out.cell 1
        have z2 := HKz.out.cell 2
        have z3 := HKz.out.cell 3
        have zf0 := HKz.out.frozen 0
        have zf1 := HKz.out.frozen 1
        have zf2 := HKz.out.frozen 2
        have zf3 := HKz.out.frozen 3
        clear hb hq1 hq2 hz
        go_wp2_with (first | (go_at_call 27; refine (rcmp_v (X := (fun k => X k ∨ k = W.heap.size + 1 + 1)) (Y := (fun k => X k ∨ k = W.heap.size + 1 + 1)) (H1.out.up HB.out (by omega)) (H2.out.up HB.out (by omega))).mono ?_; rintro e V ⟨rfl, hb1⟩; have HKq1 := Lib.hid (HKq1.out.keep hb1); have HKq2 := Lib.hid (HKq2.out.keep hb1); have HKz := Lib.hid (HKz.out.keep hb1); have HB := Lib.hid (below_step HB.out hb1); have q10 := HKq1.out.cell 0; have q11 := HKq1.out.cell 1; have q12 := HKq1.out.cell 2; have q13 := HKq1.out.cell 3; have q1f0 := HKq1.out.frozen 0; have q1f1 := HKq1.out.frozen 1; have q1f2 := HKq1.out.frozen 2; have q1f3 := HKq1.out.frozen 3; have q20 := HKq2.out.cell 0; have q21 := HKq2.out.cell 1; have q22 := HKq2.out.cell 2; have q23 := HKq2.out.cell 3; have q2f0 := HKq2.out.frozen 0; have q2f1 := HKq2.out.frozen 1; have q2f2 := HKq2.out.frozen 2; have q2f3 := HKq2.out.frozen 3; have z0 := HKz.out.cell 0; have z1 := HKz.out.cell 1; have z2 := HKz.out.cell 2; have z3 := HKz.out.cell 3; have zf0 := HKz.out.frozen 0; have zf1 := HKz.out.frozen 1; have zf2 := HKz.out.frozen 2; have zf3 := HKz.out.frozen 3; clear hb1) | (go_at_call 76; with_reducible refine (HL1.out V HB.out).mono ?_; rintro e V ⟨rfl, hb1⟩; have HKq1 := Lib.hid (HKq1.out.keep hb1); have HKq2 := Lib.hid (HKq2.out.keep hb1); have HKz := Lib.hid (HKz.out.keep hb1); have HB := Lib.hid (below_step HB.out hb1); have q10 := HKq1.out.cell 0; have q11 := HKq1.out.cell 1; have q12 := HKq1.out.cell 2; have q13 := HKq1.out.cell 3; have q1f0 := HKq1.out.frozen 0; have q1f1 := HKq1.out.frozen 1; have q1f2 := HKq1.out.frozen 2; have q1f3 := HKq1.out.frozen 3; have q20 := HKq2.out.cell 0; have q21 := HKq2.out.cell 1; have q22 := HKq2.out.cell 2; have q23 := HKq2.out.cell 3; have q2f0 := HKq2.out.frozen 0; have q2f1 := HKq2.out.frozen 1; have q2f2 := HKq2.out.frozen 2; have q2f3 := HKq2.out.frozen 3; have z0 := HKz.out.cell 0; have z1 := HKz.out.cell 1; have z2 := HKz.out.cell 2; have z3 := HKz.out.cell 3; have zf0 := HKz.out.frozen 0; have zf1 := HKz.out.frozen 1; have zf2 := HKz.out.frozen 2; have zf3 := HKz.out.frozen 3; clear hb1) | (go_at_call 76; with_reducible refine (HL2.out V HB.out).mono ?_; rintro e V ⟨rfl, hb1⟩; have HKq1 := Lib.hid (HKq1.out.keep hb1); have HKq2 := Lib.hid (HKq2.out.keep hb1); have HKz := Lib.hid (HKz.out.keep hb1); have HB := Lib.hid (below_step HB.out hb1); have q10 := HKq1.out.cell 0; have q11 := HKq1.out.cell 1; have q12 := HKq1.out.cell 2; have q13 := HKq1.out.cell 3; have q1f0 := HKq1.out.frozen 0; have q1f1 := HKq1.out.frozen 1; have q1f2 := HKq1.out.frozen 2; have q1f3 := HKq1.out.frozen 3; have q20 := HKq2.out.cell 0; have q21 := HKq2.out.cell 1; have q22 := HKq2.out.cell 2; have q23 := HKq2.out.cell 3; have q2f0 := HKq2.out.frozen 0; have q2f1 := HKq2.out.frozen 1; have q2f2 := HKq2.out.frozen 2; have q2f3 := HKq2.out.frozen 3; have z0 := HKz.out.cell 0; have z1 := HKz.out.cell 1; have z2 := HKz.out.cell 2; have z3 := HKz.out.cell 3; have zf0 := HKz.out.frozen 0; have zf1 := HKz.out.frozen 1; have zf2 := HKz.out.frozen 2; have zf3 := HKz.out.frozen 3; clear hb1) | (go_at_call 77; refine (rtruth_v (fun k => X k ∨ k = W.heap.size + 1 + 1) x2 V).mono ?_; rintro e w1 ⟨v, rfl, hT, hb1⟩; obtain ⟨A9, n9, c9, rfl, hn⟩ := hT.form; have HT := Lib.hid hT; have HKq1 := Lib.hid (HKq1.out.keep hb1); have HKq2 := Lib.hid (HKq2.out.keep hb1); have HKz := Lib.hid (HKz.out.keep hb1); have HB := Lib.hid (below_step HB.out hb1); have q10 := HKq1.out.cell 0; have q11 := HKq1.out.cell 1; have q12 := HKq1.out.cell 2; have q13 := HKq1.out.cell 3; have q1f0 := HKq1.out.frozen 0; have q1f1 := HKq1.out.frozen 1; have q1f2 := HKq1.out.frozen 2; have q1f3 := HKq1.out.frozen 3; have q20 := HKq2.out.cell 0; have q21 := HKq2.out.cell 1; have q22 := HKq2.out.cell 2; have q23 := HKq2.out.cell 3; have q2f0 := HKq2.out.frozen 0; have q2f1 := HKq2.out.frozen 1; have q2f2 := HKq2.out.frozen 2; have q2f3 := HKq2.out.frozen 3; have z0 := HKz.out.cell 0; have z1 := HKz.out.cell 1; have z2 := HKz.out.cell 2; have z3 := HKz.out.cell 3; have zf0 := HKz.out.frozen 0; have zf1 := HKz.out.frozen 1; have zf2 := HKz.out.frozen 2; have zf3 := HKz.out.frozen 3; clear hn hT hb1))
        have hB2 := HKz.out.set4 (.int .i64 ((truT x2)).kind) (.int .i64 ((truT x2)).int) (.string ⟨((truT x2)).name.toArray⟩) (.slice A9 n9 c9)
        have y0 := hB2.cell 0
        have y1 := hB2.cell 1
        have y2 := hB2.cell 2
        have y3 := hB2.cell 3
        refine bodyPost_ret (v := .tuple #[.agg #[.int .i64 ((truT x2)).kind, .int .i64 ((truT x2)).int, .string ⟨((truT x2)).name.toArray⟩, .slice A9 n9 c9], .string ⟨(([] : List UInt8)).toArray⟩]) (by simp [results, Tryz.results24, go_sem, y0, y1, y2, y3]) rfl ?_
        obtain ⟨g1, g2⟩ := fin4 (X := X) HB.out (by omega) HT.out
        exact ⟨_, rfl, g1, g2⟩
      | true =>
        rw [show (true || x2) = true by cases x2 <;> rfl]
        go_enter Tryz.func24, Tryz.ntmps24
        go_upto_region 1 with (fail)
        refine wp_world (fun V => Below W.heap.size W V ∧ Blk V (W.heap.size) 26 #[.int .i64 t1.kind, .int .i64 t1.int, .string ⟨t1.name.toArray⟩, .slice A1 n1 c1] ∧ Blk V (W.heap.size + 1) 26 #[.int .i64 t2.kind, .int .i64 t2.int, .string ⟨t2.name.toArray⟩, .slice A2 n2 c2] ∧ Blk V (W.heap.size + 1 + 1) 26 #[.int .i64 0, .int .i64 0, .string ⟨#[]⟩, .slice none 0 0]) ⟨below_step (below_step (below_alloc _ _) (below_alloc _ _)) (below_alloc _ _), (((Blk.newAt (by first | (with_reducible rfl) | simp)).alloc _).alloc _), ((Blk.newAt (by first | (with_reducible rfl) | simp)).alloc _), (Blk.newAt (by first | (with_reducible rfl) | simp))⟩ ?_
        rintro V ⟨hb, hq1, hq2, hz⟩
        have HB := Lib.hid hb
        have HKq1 := Lib.hid hq1
        have HKq2 := Lib.hid hq2
        have HKz := Lib.hid hz
        have q10 := HKq1.out.cell 0
        have q11 := HKq1.out.cell 1
        have q12 := HKq1.out.cell 2
        have q13 := HKq1.out.cell 3
        have q1f0 := HKq1.out.frozen 0
        have q1f1 := HKq1.out.frozen 1
        have q1f2 := HKq1.out.frozen 2
        have q1f3 := HKq1.out.frozen 3
        have q20 := HKq2.out.cell 0
        have q21 := HKq2.out.cell 1
        have q22 := HKq2.out.cell 2
        have q23 := HKq2.out.cell 3
        have q2f0 := HKq2.out.frozen 0
        have q2f1 := HKq2.out.frozen 1
        have q2f2 := HKq2.out.frozen 2
        have q2f3 := HKq2.out.frozen 3
        have z0 := HKz.out.cell 0
        have z1 := HKz.out.cell 1
        have z2 := HKz.out.cell 2
        have z3 := HKz.out.cell 3
        have zf0 := HKz.out.frozen 0
        have zf1 := HKz.out.frozen 1
        have zf2 := HKz.out.frozen 2
        have zf3 := HKz.out.frozen 3
        clear hb hq1 hq2 hz
        go_wp2_with (first | (go_at_call 27; refine (rcmp_v (X := (fun k => X k ∨ k = W.heap.size + 1 + 1)) (Y := (fun k => X k ∨ k = W.heap.size + 1 + 1)) (H1.out.up HB.out (by omega)) (H2.out.up HB.out (by omega))).mono ?_; rintro e V ⟨rfl, hb1⟩; have HKq1 := Lib.hid (HKq1.out.keep hb1); have HKq2 := Lib.hid (HKq2.out.keep hb1); have HKz := Lib.hid (HKz.out.keep hb1); have HB := Lib.hid (below_step HB.out hb1); have q10 := HKq1.out.cell 0; have q11 := HKq1.out.cell 1; have q12 := HKq1.out.cell 2; have q13 := HKq1.out.cell 3; have q1f0 := HKq1.out.frozen 0; have q1f1 := HKq1.out.frozen 1; have q1f2 := HKq1.out.frozen 2; have q1f3 := HKq1.out.frozen 3; have q20 := HKq2.out.cell 0; have q21 := HKq2.out.cell 1; have q22 := HKq2.out.cell 2; have q23 := HKq2.out.cell 3; have q2f0 := HKq2.out.frozen 0; have q2f1 := HKq2.out.frozen 1; have q2f2 := HKq2.out.frozen 2; have q2f3 := HKq2.out.frozen 3; have z0 := HKz.out.cell 0; have z1 := HKz.out.cell 1; have z2 := HKz.out.cell 2; have z3 := HKz.out.cell 3; have zf0 := HKz.out.frozen 0; have zf1 := HKz.out.frozen 1; have zf2 := HKz.out.frozen 2; have zf3 := HKz.out.frozen 3; clear hb1) | (go_at_call 76; with_reducible refine (HL1.out V HB.out).mono ?_; rintro e V ⟨rfl, hb1⟩; have HKq1 := Lib.hid (HKq1.out.keep hb1); have HKq2 := Lib.hid (HKq2.out.keep hb1); have HKz := Lib.hid (HKz.out.keep hb1); have HB := Lib.hid (below_step HB.out hb1); have q10 := HKq1.out.cell 0; have q11 := HKq1.out.cell 1; have q12 := HKq1.out.cell 2; have q13 := HKq1.out.cell 3; have q1f0 := HKq1.out.frozen 0; have q1f1 := HKq1.out.frozen 1; have q1f2 := HKq1.out.frozen 2; have q1f3 := HKq1.out.frozen 3; have q20 := HKq2.out.cell 0; have q21 := HKq2.out.cell 1; have q22 := HKq2.out.cell 2; have q23 := HKq2.out.cell 3; have q2f0 := HKq2.out.frozen 0; have q2f1 := HKq2.out.frozen 1; have q2f2 := HKq2.out.frozen 2; have q2f3 := HKq2.out.frozen 3; have z0 := HKz.out.cell 0; have z1 := HKz.out.cell 1; have z2 := HKz.out.cell 2; have z3 := HKz.out.cell 3; have zf0 := HKz.out.frozen 0; have zf1 := HKz.out.frozen 1; have zf2 := HKz.out.frozen 2; have zf3 := HKz.out.frozen 3; clear hb1) | (go_at_call 76; with_reducible refine (HL2.out V HB.out).mono ?_; rintro e V ⟨rfl, hb1⟩; have HKq1 := Lib.hid (HKq1.out.keep hb1); have HKq2 := Lib.hid (HKq2.out.keep hb1); have HKz := Lib.hid (HKz.out.keep hb1); have HB := Lib.hid (below_step HB.out hb1); have q10 := HKq1.out.cell 0; have q11 := HKq1.out.cell 1; have q12 := HKq1.out.cell 2; have q13 := HKq1.out.cell 3; have q1f0 := HKq1.out.frozen 0; have q1f1 := HKq1.out.frozen 1; have q1f2 := HKq1.out.frozen 2; have q1f3 := HKq1.out.frozen 3; have q20 := HKq2.out.cell 0; have q21 := HKq2.out.cell 1; have q22 := HKq2.out.cell 2; have q23 := HKq2.out.cell 3; have q2f0 := HKq2.out.frozen 0; have q2f1 := HKq2.out.frozen 1; have q2f2 := HKq2.out.frozen 2; have q2f3 := HKq2.out.frozen 3; have z0 := HKz.out.cell 0; have z1 := HKz.out.cell 1; have z2 := HKz.out.cell 2; have z3 := HKz.out.cell 3; have zf0 := HKz.out.frozen 0; have zf1 := HKz.out.frozen 1; have zf2 := HKz.out.frozen 2; have zf3 := HKz.out.frozen 3; clear hb1) | (go_at_call 77; refine (rtruth_v (fun k => X k ∨ k = W.heap.size + 1 + 1) true V).mono ?_; rintro e w1 ⟨v, rfl, hT, hb1⟩; obtain ⟨A9, n9, c9, rfl, hn⟩ := hT.form; have HT := Lib.hid hT; have HKq1 := Lib.hid (HKq1.out.keep hb1); have HKq2 := Lib.hid (HKq2.out.keep hb1); have HKz := Lib.hid (HKz.out.keep hb1); have HB := Lib.hid (below_step HB.out hb1); have q10 := HKq1.out.cell 0; have q11 := HKq1.out.cell 1; have q12 := HKq1.out.cell 2; have q13 := HKq1.out.cell 3; have q1f0 := HKq1.out.frozen 0; have q1f1 := HKq1.out.frozen 1; have q1f2 := HKq1.out.frozen 2; have q1f3 := HKq1.out.frozen 3; have q20 := HKq2.out.cell 0; have q21 := HKq2.out.cell 1; have q22 := HKq2.out.cell 2; have q23 := HKq2.out.cell 3; have q2f0 := HKq2.out.frozen 0; have q2f1 := HKq2.out.frozen 1; have q2f2 := HKq2.out.frozen 2; have q2f3 := HKq2.out.frozen 3; have z0 := HKz.out.cell 0; have z1 := HKz.out.cell 1; have z2 := HKz.out.cell 2; have z3 := HKz.out.cell 3; have zf0 := HKz.out.frozen 0; have zf1 := HKz.out.frozen 1; have zf2 := HKz.out.frozen 2; have zf3 := HKz.out.frozen 3; clear hn hT hb1))
        have hB2 := HKz.out.set4 (.int .i64 ((truT true)).kind) (.int .i64 ((truT true)).int) (.string ⟨((truT true)).name.toArray⟩) (.slice A9 n9 c9)
        have y0 := hB2.cell 0
        have y1 := hB2.cell 1
        have y2 := hB2.cell 2
        have y3 := hB2.cell 3
        refine bodyPost_ret (v := .tuple #[.agg #[.int .i64 ((truT true)).kind, .int .i64 ((truT true)).int, .string ⟨((truT true)).name.toArray⟩, .slice A9 n9 c9], .string ⟨(([] : List UInt8)).toArray⟩]) (by simp [results, Tryz.results24, go_sem, y0, y1, y2, y3]) rfl ?_
        obtain ⟨g1, g2⟩ := fin4 (X := X) HB.out (by omega) HT.out
        exact ⟨_, rfl, g1, g2⟩
set_option maxRecDepth 100000 in
set_option maxHeartbeats 1000000 in
theorem rtwo_cons {X : Nat → Prop} (hX : ∀ k, X k → k < W.heap.size) (h1 : TEx X W u1 t1) (h2 : TEx X W u2 t2) : Calls Tryz.prog 24 #[.string ⟨#[99, 111, 110, 115]⟩, u1, u2] W (R2 X W (fitP (tC t1 t2))) := by
  obtain ⟨A1, n1, c1, rfl, hn1⟩ := h1.form
  have H1 := Lib.hid h1
  have HN1 := Lib.hid hn1
  obtain ⟨A2, n2, c2, rfl, hn2⟩ := h2.form
  have H2 := Lib.hid h2
  have HN2 := Lib.hid hn2
  have HX := Lib.hid hX
  clear h1 hn1 h2 hn2 hX
  go_enter Tryz.func24, Tryz.ntmps24
  go_upto_region 1 with (fail)
  refine wp_world (fun V => Below W.heap.size W V ∧ Blk V (W.heap.size) 26 #[.int .i64 t1.kind, .int .i64 t1.int, .string ⟨t1.name.toArray⟩, .slice A1 n1 c1] ∧ Blk V (W.heap.size + 1) 26 #[.int .i64 t2.kind, .int .i64 t2.int, .string ⟨t2.name.toArray⟩, .slice A2 n2 c2] ∧ Blk V (W.heap.size + 1 + 1) 26 #[.int .i64 0, .int .i64 0, .string ⟨#[]⟩, .slice none 0 0]) ⟨below_step (below_step (below_alloc _ _) (below_alloc _ _)) (below_alloc _ _), (((Blk.newAt (by first | (with_reducible rfl) | simp)).alloc _).alloc _), ((Blk.newAt (by first | (with_reducible rfl) | simp)).alloc _), (Blk.newAt (by first | (with_reducible rfl) | simp))⟩ ?_
  rintro V ⟨hb, hq1, hq2, hz⟩
  have HB := Lib.hid hb
  have HKq1 := Lib.hid hq1
  have HKq2 := Lib.hid hq2
  have HKz := Lib.hid hz
  have q10 := HKq1.out.cell 0
  have q11 := HKq1.out.cell 1
  have q12 := HKq1.out.cell 2
  have q13 := HKq1.out.cell 3
  have q1f0 := HKq1.out.frozen 0
  have q1f1 := HKq1.out.frozen 1
  have q1f2 := HKq1.out.frozen 2
  have q1f3 := HKq1.out.frozen 3
  have q20 := HKq2.out.cell 0
  have q21 := HKq2.out.cell 1
  have q22 := HKq2.out.cell 2
  have q23 := HKq2.out.cell 3
  have q2f0 := HKq2.out.frozen 0
  have q2f1 := HKq2.out.frozen 1
  have q2f2 := HKq2.out.frozen 2
  have q2f3 := HKq2.out.frozen 3
  have z0 := HKz.out.cell 0
  have z1 := HKz.out.cell 1
  have z2 := HKz.out.cell 2
  have z3 := HKz.out.cell 3
  have zf0 := HKz.out.frozen 0
  have zf1 := HKz.out.frozen 1
  have zf2 := HKz.out.frozen 2
  have zf3 := HKz.out.frozen 3
  clear hb hq1 hq2 hz
  go_wp2_with (first | (go_at_call 27; refine (rcmp_v (X := (fun k => X k ∨ k = W.heap.size + 1 + 1)) (Y := (fun k => X k ∨ k = W.heap.size + 1 + 1)) (H1.out.up HB.out (by omega)) (H2.out.up HB.out (by omega))).mono ?_; rintro e V ⟨rfl, hb1⟩; have HKq1 := Lib.hid (HKq1.out.keep hb1); have HKq2 := Lib.hid (HKq2.out.keep hb1); have HKz := Lib.hid (HKz.out.keep hb1); have HB := Lib.hid (below_step HB.out hb1); have q10 := HKq1.out.cell 0; have q11 := HKq1.out.cell 1; have q12 := HKq1.out.cell 2; have q13 := HKq1.out.cell 3; have q1f0 := HKq1.out.frozen 0; have q1f1 := HKq1.out.frozen 1; have q1f2 := HKq1.out.frozen 2; have q1f3 := HKq1.out.frozen 3; have q20 := HKq2.out.cell 0; have q21 := HKq2.out.cell 1; have q22 := HKq2.out.cell 2; have q23 := HKq2.out.cell 3; have q2f0 := HKq2.out.frozen 0; have q2f1 := HKq2.out.frozen 1; have q2f2 := HKq2.out.frozen 2; have q2f3 := HKq2.out.frozen 3; have z0 := HKz.out.cell 0; have z1 := HKz.out.cell 1; have z2 := HKz.out.cell 2; have z3 := HKz.out.cell 3; have zf0 := HKz.out.frozen 0; have zf1 := HKz.out.frozen 1; have zf2 := HKz.out.frozen 2; have zf3 := HKz.out.frozen 3; clear hb1) | (go_at_call 80; refine (tcons_v (X := (fun k => X k ∨ k = W.heap.size + 1 + 1)) (W := V) (by rintro k (hk | rfl); exact Nat.lt_of_lt_of_le (HX.out k hk) HB.out.size; exact HKz.out.lt) (H1.out.up HB.out (by omega)) (H2.out.up HB.out (by omega))).mono ?_; rintro e V ⟨v, rfl, hTc, hb1⟩; obtain ⟨A7, n7, c7, rfl, hn7⟩ := hTc.form; have HTC := Lib.hid hTc; have HKq1 := Lib.hid (HKq1.out.keep hb1); have HKq2 := Lib.hid (HKq2.out.keep hb1); have HKz := Lib.hid (HKz.out.keep hb1); have HB := Lib.hid (below_step HB.out hb1); have q10 := HKq1.out.cell 0; have q11 := HKq1.out.cell 1; have q12 := HKq1.out.cell 2; have q13 := HKq1.out.cell 3; have q1f0 := HKq1.out.frozen 0; have q1f1 := HKq1.out.frozen 1; have q1f2 := HKq1.out.frozen 2; have q1f3 := HKq1.out.frozen 3; have q20 := HKq2.out.cell 0; have q21 := HKq2.out.cell 1; have q22 := HKq2.out.cell 2; have q23 := HKq2.out.cell 3; have q2f0 := HKq2.out.frozen 0; have q2f1 := HKq2.out.frozen 1; have q2f2 := HKq2.out.frozen 2; have q2f3 := HKq2.out.frozen 3; have z0 := HKz.out.cell 0; have z1 := HKz.out.cell 1; have z2 := HKz.out.cell 2; have z3 := HKz.out.cell 3; have zf0 := HKz.out.frozen 0; have zf1 := HKz.out.frozen 1; have zf2 := HKz.out.frozen 2; have zf3 := HKz.out.frozen 3; clear hb1 hTc hn7) | (go_at_call 21; refine (rfits_v (X := (fun k => X k ∨ k = W.heap.size + 1 + 1)) (W := V) (by rintro k (hk | rfl); exact Nat.lt_of_lt_of_le (HX.out k hk) HB.out.size; exact HKz.out.lt) HTC.out).mono ?_; rintro e w1 ⟨v, rfl, hT, hb1⟩; obtain ⟨A9, n9, c9, rfl, hn⟩ := hT.form; have HT := Lib.hid hT; have HKq1 := Lib.hid (HKq1.out.keep hb1); have HKq2 := Lib.hid (HKq2.out.keep hb1); have HKz := Lib.hid (HKz.out.keep hb1); have HB := Lib.hid (below_step HB.out hb1); have q10 := HKq1.out.cell 0; have q11 := HKq1.out.cell 1; have q12 := HKq1.out.cell 2; have q13 := HKq1.out.cell 3; have q1f0 := HKq1.out.frozen 0; have q1f1 := HKq1.out.frozen 1; have q1f2 := HKq1.out.frozen 2; have q1f3 := HKq1.out.frozen 3; have q20 := HKq2.out.cell 0; have q21 := HKq2.out.cell 1; have q22 := HKq2.out.cell 2; have q23 := HKq2.out.cell 3; have q2f0 := HKq2.out.frozen 0; have q2f1 := HKq2.out.frozen 1; have q2f2 := HKq2.out.frozen 2; have q2f3 := HKq2.out.frozen 3; have z0 := HKz.out.cell 0; have z1 := HKz.out.cell 1; have z2 := HKz.out.cell 2; have z3 := HKz.out.cell 3; have zf0 := HKz.out.frozen 0; have zf1 := HKz.out.frozen 1; have zf2 := HKz.out.frozen 2; have zf3 := HKz.out.frozen 3; clear hn hT hb1))
  have hB2 := HKz.out.set4 (.int .i64 ((fitP (tC t1 t2)).1).kind) (.int .i64 ((fitP (tC t1 t2)).1).int) (.string ⟨((fitP (tC t1 t2)).1).name.toArray⟩) (.slice A9 n9 c9)
  have y0 := hB2.cell 0
  have y1 := hB2.cell 1
  have y2 := hB2.cell 2
  have y3 := hB2.cell 3
  refine bodyPost_ret (v := .tuple #[.agg #[.int .i64 ((fitP (tC t1 t2)).1).kind, .int .i64 ((fitP (tC t1 t2)).1).int, .string ⟨((fitP (tC t1 t2)).1).name.toArray⟩, .slice A9 n9 c9], .string ⟨((fitP (tC t1 t2)).2).toArray⟩]) (by simp [results, Tryz.results24, go_sem, y0, y1, y2, y3]) rfl ?_
  obtain ⟨g1, g2⟩ := fin4 (X := X) HB.out (by omega) HT.out
  exact ⟨_, rfl, g1, g2⟩
set_option maxRecDepth 100000 in
set_option maxHeartbeats 2000000 in
theorem rtwo_element {X : Nat → Prop} (hX : ∀ k, X k → k < W.heap.size) (h1 : TEx X W u1 t1) (h2 : TEx X W u2 t2) (hi : -1152921504606846976 ≤ t1.int ∧ t1.int ≤ 1152921504606846976) : Calls Tryz.prog 24 #[.string ⟨#[101, 108, 101, 109, 101, 110, 116]⟩, u1, u2] W (R2 X W ((if t1.kind = 1 ∧ t2.kind = 6 ∧ 1 ≤ t1.int ∧ t1.int ≤ (t2.items.length : Nat) then (t2.items.getD (t1.int - 1).toNat tZ, []) else (tZ, sArg)))) := by
  obtain ⟨A1, n1, c1, rfl, hn1⟩ := h1.form
  have H1 := Lib.hid h1
  have HN1 := Lib.hid hn1
  obtain ⟨A2, n2, c2, rfl, hn2⟩ := h2.form
  have H2 := Lib.hid h2
  have HN2 := Lib.hid hn2
  have HX := Lib.hid hX
  clear h1 hn1 h2 hn2 hX
  have hl2 : t2.items.length = n2 := HN2.out
  have hn9 : n2 ≤ 9223372036854775807 := by rw [← hl2]; exact H2.out.val.len
  have hww : ∀ j : Nat, t1.int = (j : Int) + 1 → wrap64 (j : Int) = (j : Int) := fun j hj => by unfold wrap64; omega
  clear hi
  by_cases k1 : t1.kind = 1
  · by_cases k2 : t2.kind = 6
    · by_cases k3 : t1.int < 1
      · rw [if_neg (fun h => by omega)]
        have hd : decide (t1.int < 1) = true := by simp; omega
        clear hl2 hn9 hww k3
        have Ik1 := Lib.hid k1
        have Ik2 := Lib.hid k2
        clear k1 k2
        go_enter Tryz.func24, Tryz.ntmps24
        go_upto_region 1 with (fail)
        refine wp_world (fun V => Below W.heap.size W V ∧ Blk V (W.heap.size) 26 #[.int .i64 t1.kind, .int .i64 t1.int, .string ⟨t1.name.toArray⟩, .slice A1 n1 c1] ∧ Blk V (W.heap.size + 1) 26 #[.int .i64 t2.kind, .int .i64 t2.int, .string ⟨t2.name.toArray⟩, .slice A2 n2 c2] ∧ Blk V (W.heap.size + 1 + 1) 26 #[.int .i64 0, .int .i64 0, .string ⟨#[]⟩, .slice none 0 0]) ⟨below_step (below_step (below_alloc _ _) (below_alloc _ _)) (below_alloc _ _), (((Blk.newAt (by first | (with_reducible rfl) | simp)).alloc _).alloc _), ((Blk.newAt (by first | (with_reducible rfl) | simp)).alloc _), (Blk.newAt (by first | (with_reducible rfl) | simp))⟩ ?_
        rintro V ⟨hb, hq1, hq2, hz⟩
        have HB := Lib.hid hb
        have HKq1 := Lib.hid hq1
        have HKq2 := Lib.hid hq2
        have HKz := Lib.hid hz
        have q10 := HKq1.out.cell 0
        have q11 := HKq1.out.cell 1
        have q12 := HKq1.out.cell 2
        have q13 := HKq1.out.cell 3
        have q1f0 := HKq1.out.frozen 0
        have q1f1 := HKq1.out.frozen 1
        have q1f2 := HKq1.out.frozen 2
        have q1f3 := HKq1.out.frozen 3
        have q20 := HKq2.out.cell 0
        have q21 := HKq2.out.cell 1
        have q22 := HKq2.out.cell 2
        have q23 := HKq2.out.cell 3
        have q2f0 := HKq2.out.frozen 0
        have q2f1 := HKq2.out.frozen 1
        have q2f2 := HKq2.out.frozen 2
        have q2f3 := HKq2.out.frozen 3
        have z0 := HKz.out.cell 0
        have z1 := HKz.out.cell 1
        have z2 := HKz.out.cell 2
        have z3 := HKz.out.cell 3
        have zf0 := HKz.out.frozen 0
        have zf1 := HKz.out.frozen 1
        have zf2 := HKz.out.frozen 2
        have zf3 := HKz.out.frozen 3
        clear hb hq1 hq2 hz
        go_wp2_with (go_at_call 27; refine (rcmp_v (X := (fun k => X k ∨ k = W.heap.size + 1 + 1)) (Y := (fun k => X k ∨ k = W.heap.size + 1 + 1)) (H1.out.up HB.out (by omega)) (H2.out.up HB.out (by omega))).mono ?_; rintro e V ⟨rfl, hb1⟩; have HKq1 := Lib.hid (HKq1.out.keep hb1); have HKq2 := Lib.hid (HKq2.out.keep hb1); have HKz := Lib.hid (HKz.out.keep hb1); have HB := Lib.hid (below_step HB.out hb1); have q10 := HKq1.out.cell 0; have q11 := HKq1.out.cell 1; have q12 := HKq1.out.cell 2; have q13 := HKq1.out.cell 3; have q1f0 := HKq1.out.frozen 0; have q1f1 := HKq1.out.frozen 1; have q1f2 := HKq1.out.frozen 2; have q1f3 := HKq1.out.frozen 3; have q20 := HKq2.out.cell 0; have q21 := HKq2.out.cell 1; have q22 := HKq2.out.cell 2; have q23 := HKq2.out.cell 3; have q2f0 := HKq2.out.frozen 0; have q2f1 := HKq2.out.frozen 1; have q2f2 := HKq2.out.frozen 2; have q2f3 := HKq2.out.frozen 3; have z0 := HKz.out.cell 0; have z1 := HKz.out.cell 1; have z2 := HKz.out.cell 2; have z3 := HKz.out.cell 3; have zf0 := HKz.out.frozen 0; have zf1 := HKz.out.frozen 1; have zf2 := HKz.out.frozen 2; have zf3 := HKz.out.frozen 3; clear hb1; have k1 := Ik1.out; have k2 := Ik2.out)
        have hB2 := HKz.out.set4 (.int .i64 0) (.int .i64 0) (.string ⟨#[]⟩) (.slice none 0 0)
        have y0 := hB2.cell 0
        have y1 := hB2.cell 1
        have y2 := hB2.cell 2
        have y3 := hB2.cell 3
        refine bodyPost_ret (v := .tuple #[.agg #[.int .i64 0, .int .i64 0, .string ⟨#[]⟩, .slice none 0 0], .string ⟨(sArg).toArray⟩]) (by simp [results, Tryz.results24, go_sem, y0, y1, y2, y3, sArg]) rfl ?_
        obtain ⟨g1, g2⟩ := fin4 (X := X) (p := W.heap.size + 1 + 1) HB.out (by omega) (tex_z _ _)
        exact ⟨_, rfl, g1, g2⟩
      · by_cases k4 : (n2 : Int) < t1.int
        · rw [if_neg (fun h => by omega)]
          have hd : decide (t1.int < 1) = false := by simp; omega
          have hd2 : decide ((n2 : Int) < t1.int) = true := by simp; omega
          clear hl2 hn9 hww k3 k4
          have Ik1 := Lib.hid k1
          have Ik2 := Lib.hid k2
          clear k1 k2
          go_enter Tryz.func24, Tryz.ntmps24
          go_upto_region 1 with (fail)
          refine wp_world (fun V => Below W.heap.size W V ∧ Blk V (W.heap.size) 26 #[.int .i64 t1.kind, .int .i64 t1.int, .string ⟨t1.name.toArray⟩, .slice A1 n1 c1] ∧ Blk V (W.heap.size + 1) 26 #[.int .i64 t2.kind, .int .i64 t2.int, .string ⟨t2.name.toArray⟩, .slice A2 n2 c2] ∧ Blk V (W.heap.size + 1 + 1) 26 #[.int .i64 0, .int .i64 0, .string ⟨#[]⟩, .slice none 0 0]) ⟨below_step (below_step (below_alloc _ _) (below_alloc _ _)) (below_alloc _ _), (((Blk.newAt (by first | (with_reducible rfl) | simp)).alloc _).alloc _), ((Blk.newAt (by first | (with_reducible rfl) | simp)).alloc _), (Blk.newAt (by first | (with_reducible rfl) | simp))⟩ ?_
          rintro V ⟨hb, hq1, hq2, hz⟩
          have HB := Lib.hid hb
          have HKq1 := Lib.hid hq1
          have HKq2 := Lib.hid hq2
          have HKz := Lib.hid hz
          have q10 := HKq1.out.cell 0
          have q11 := HKq1.out.cell 1
          have q12 := HKq1.out.cell 2
          have q13 := HKq1.out.cell 3
          have q1f0 := HKq1.out.frozen 0
          have q1f1 := HKq1.out.frozen 1
          have q1f2 := HKq1.out.frozen 2
          have q1f3 := HKq1.out.frozen 3
          have q20 := HKq2.out.cell 0
          have q21 := HKq2.out.cell 1
          have q22 := HKq2.out.cell 2
          have q23 := HKq2.out.cell 3
          have q2f0 := HKq2.out.frozen 0
          have q2f1 := HKq2.out.frozen 1
          have q2f2 := HKq2.out.frozen 2
          have q2f3 := HKq2.out.frozen 3
          have z0 := HKz.out.cell 0
          have z1 := HKz.out.cell 1
          have z2 := HKz.out.cell 2
          have z3 := HKz.out.cell 3
          have zf0 := HKz.out.frozen 0
          have zf1 := HKz.out.frozen 1
          have zf2 := HKz.out.frozen 2
          have zf3 := HKz.out.frozen 3
          clear hb hq1 hq2 hz
          go_wp2_with (go_at_call 27; refine (rcmp_v (X := (fun k => X k ∨ k = W.heap.size + 1 + 1)) (Y := (fun k => X k ∨ k = W.heap.size + 1 + 1)) (H1.out.up HB.out (by omega)) (H2.out.up HB.out (by omega))).mono ?_; rintro e V ⟨rfl, hb1⟩; have HKq1 := Lib.hid (HKq1.out.keep hb1); have HKq2 := Lib.hid (HKq2.out.keep hb1); have HKz := Lib.hid (HKz.out.keep hb1); have HB := Lib.hid (below_step HB.out hb1); have q10 := HKq1.out.cell 0; have q11 := HKq1.out.cell 1; have q12 := HKq1.out.cell 2; have q13 := HKq1.out.cell 3; have q1f0 := HKq1.out.frozen 0; have q1f1 := HKq1.out.frozen 1; have q1f2 := HKq1.out.frozen 2; have q1f3 := HKq1.out.frozen 3; have q20 := HKq2.out.cell 0; have q21 := HKq2.out.cell 1; have q22 := HKq2.out.cell 2; have q23 := HKq2.out.cell 3; have q2f0 := HKq2.out.frozen 0; have q2f1 := HKq2.out.frozen 1; have q2f2 := HKq2.out.frozen 2; have q2f3 := HKq2.out.frozen 3; have z0 := HKz.out.cell 0; have z1 := HKz.out.cell 1; have z2 := HKz.out.cell 2; have z3 := HKz.out.cell 3; have zf0 := HKz.out.frozen 0; have zf1 := HKz.out.frozen 1; have zf2 := HKz.out.frozen 2; have zf3 := HKz.out.frozen 3; clear hb1; have k1 := Ik1.out; have k2 := Ik2.out)
          have hB2 := HKz.out.set4 (.int .i64 0) (.int .i64 0) (.string ⟨#[]⟩) (.slice none 0 0)
          have y0 := hB2.cell 0
          have y1 := hB2.cell 1
          have y2 := hB2.cell 2
          have y3 := hB2.cell 3
          refine bodyPost_ret (v := .tuple #[.agg #[.int .i64 0, .int .i64 0, .string ⟨#[]⟩, .slice none 0 0], .string ⟨(sArg).toArray⟩]) (by simp [results, Tryz.results24, go_sem, y0, y1, y2, y3, sArg]) rfl ?_
          obtain ⟨g1, g2⟩ := fin4 (X := X) (p := W.heap.size + 1 + 1) HB.out (by omega) (tex_z _ _)
          exact ⟨_, rfl, g1, g2⟩
        · rw [if_pos ⟨k1, k2, by omega, by omega⟩]
          obtain ⟨j, hj⟩ : ∃ j : Nat, t1.int = (j : Int) + 1 := ⟨(t1.int - 1).toNat, by omega⟩
          have hjl : j < t2.items.length := by omega
          rw [show (t1.int - 1).toNat = j by omega, show t2.items.getD j tZ = t2.items[j] by simp [List.getD, hjl]]
          have hw : wrap64 (j : Int) = (j : Int) := hww j hj
          have hjn : j < n2 := by omega
          have hd2 : decide ((n2 : Int) < (j : Int) + 1) = false := by simp; omega
          have hd3 : ¬ n2 < j + 1 := by omega
          obtain ⟨ib, io, IA, im, ic, hA, e0, e1, e2, e3, hin, hIT⟩ := (H2.out.up (p := W.heap.size + 1 + 1) (Below.refl _ _) (by omega)).items.item hjl
          have HIT := Lib.hid hIT
          have HI0 := Lib.hid e0
          have HI1 := Lib.hid e1
          have HI2 := Lib.hid e2
          have HI3 := Lib.hid e3
          clear e0 e1 e2 e3 hIT hin hl2 hn9 hww k3 k4
          have Ik1 := Lib.hid k1
          have Ik2 := Lib.hid k2
          have IhA := Lib.hid hA
          have Ihjn := Lib.hid hjn
          have Ihw := Lib.hid hw
          have Ihj := Lib.hid hj
          clear k1 k2 hA hjn hw hj
          go_enter Tryz.func24, Tryz.ntmps24
          go_upto_region 1 with (fail)
          refine wp_world (fun V => Below W.heap.size W V ∧ Blk V (W.heap.size) 26 #[.int .i64 t1.kind, .int .i64 t1.int, .string ⟨t1.name.toArray⟩, .slice A1 n1 c1] ∧ Blk V (W.heap.size + 1) 26 #[.int .i64 t2.kind, .int .i64 t2.int, .string ⟨t2.name.toArray⟩, .slice A2 n2 c2] ∧ Blk V (W.heap.size + 1 + 1) 26 #[.int .i64 0, .int .i64 0, .string ⟨#[]⟩, .slice none 0 0]) ⟨below_step (below_step (below_alloc _ _) (below_alloc _ _)) (below_alloc _ _), (((Blk.newAt (by first | (with_reducible rfl) | simp)).alloc _).alloc _), ((Blk.newAt (by first | (with_reducible rfl) | simp)).alloc _), (Blk.newAt (by first | (with_reducible rfl) | simp))⟩ ?_
          rintro V ⟨hb, hq1, hq2, hz⟩
          have HB := Lib.hid hb
          have HKq1 := Lib.hid hq1
          have HKq2 := Lib.hid hq2
          have HKz := Lib.hid hz
          have q10 := HKq1.out.cell 0
          have q11 := HKq1.out.cell 1
          have q12 := HKq1.out.cell 2
          have q13 := HKq1.out.cell 3
          have q1f0 := HKq1.out.frozen 0
          have q1f1 := HKq1.out.frozen 1
          have q1f2 := HKq1.out.frozen 2
          have q1f3 := HKq1.out.frozen 3
          have q20 := HKq2.out.cell 0
          have q21 := HKq2.out.cell 1
          have q22 := HKq2.out.cell 2
          have q23 := HKq2.out.cell 3
          have q2f0 := HKq2.out.frozen 0
          have q2f1 := HKq2.out.frozen 1
          have q2f2 := HKq2.out.frozen 2
          have q2f3 := HKq2.out.frozen 3
          have z0 := HKz.out.cell 0
          have z1 := HKz.out.cell 1
          have z2 := HKz.out.cell 2
          have z3 := HKz.out.cell 3
          have zf0 := HKz.out.frozen 0
          have zf1 := HKz.out.frozen 1
          have zf2 := HKz.out.frozen 2
          have zf3 := HKz.out.frozen 3
          clear hb hq1 hq2 hz
          have hjn := Ihjn.out
          have hw := Ihw.out
          go_upto_region 35 with (go_at_call 27; refine (rcmp_v (X := (fun k => X k ∨ k = W.heap.size + 1 + 1)) (Y := (fun k => X k ∨ k = W.heap.size + 1 + 1)) (H1.out.up HB.out (by omega)) (H2.out.up HB.out (by omega))).mono ?_; rintro e V ⟨rfl, hb1⟩; have HKq1 := Lib.hid (HKq1.out.keep hb1); have HKq2 := Lib.hid (HKq2.out.keep hb1); have HKz := Lib.hid (HKz.out.keep hb1); have HB := Lib.hid (below_step HB.out hb1); have q10 := HKq1.out.cell 0; have q11 := HKq1.out.cell 1; have q12 := HKq1.out.cell 2; have q13 := HKq1.out.cell 3; have q1f0 := HKq1.out.frozen 0; have q1f1 := HKq1.out.frozen 1; have q1f2 := HKq1.out.frozen 2; have q1f3 := HKq1.out.frozen 3; have q20 := HKq2.out.cell 0; have q21 := HKq2.out.cell 1; have q22 := HKq2.out.cell 2; have q23 := HKq2.out.cell 3; have q2f0 := HKq2.out.frozen 0; have q2f1 := HKq2.out.frozen 1; have q2f2 := HKq2.out.frozen 2; have q2f3 := HKq2.out.frozen 3; have z0 := HKz.out.cell 0; have z1 := HKz.out.cell 1; have z2 := HKz.out.cell 2; have z3 := HKz.out.cell 3; have zf0 := HKz.out.frozen 0; have zf1 := HKz.out.frozen 1; have zf2 := HKz.out.frozen 2; have zf3 := HKz.out.frozen 3; clear hb1; have k1 := Ik1.out; have k2 := Ik2.out; have hj := Ihj.out; have hA := IhA.out)
          have hlt : ib < W.heap.size := World.block_lt_of_cell? W _ HI0.out
          have i0 := (HB.out.cell (p := ⟨ib, io + j * 4, none⟩) hlt).trans HI0.out
          have i1 := (HB.out.cell (p := ⟨ib, io + j * 4 + 1, none⟩) hlt).trans HI1.out
          have i2 := (HB.out.cell (p := ⟨ib, io + j * 4 + 2, none⟩) hlt).trans HI2.out
          have i3 := (HB.out.cell (p := ⟨ib, io + j * 4 + 3, none⟩) hlt).trans HI3.out
          clear hlt
          go_wp2
          have HT := Lib.hid (HIT.out.below HB.out)
          have hB2 := HKz.out.set4 (.int .i64 (t2.items[j]).kind) (.int .i64 (t2.items[j]).int) (.string ⟨(t2.items[j]).name.toArray⟩) (.slice IA im ic)
          have y0 := hB2.cell 0
          have y1 := hB2.cell 1
          have y2 := hB2.cell 2
          have y3 := hB2.cell 3
          refine bodyPost_ret (v := .tuple #[.agg #[.int .i64 (t2.items[j]).kind, .int .i64 (t2.items[j]).int, .string ⟨(t2.items[j]).name.toArray⟩, .slice IA im ic], .string ⟨(([] : List UInt8)).toArray⟩]) (by simp [results, Tryz.results24, go_sem, y0, y1, y2, y3]) rfl ?_
          obtain ⟨g1, g2⟩ := fin4 (X := X) HB.out (by omega) HT.out
          exact ⟨_, rfl, g1, g2⟩
    · rw [if_neg (fun h => k2 h.2.1)]
      clear hl2 hn9 hww
      have Ik1 := Lib.hid k1
      have Ik2 := Lib.hid k2
      clear k1 k2
      go_enter Tryz.func24, Tryz.ntmps24
      go_upto_region 1 with (fail)
      refine wp_world (fun V => Below W.heap.size W V ∧ Blk V (W.heap.size) 26 #[.int .i64 t1.kind, .int .i64 t1.int, .string ⟨t1.name.toArray⟩, .slice A1 n1 c1] ∧ Blk V (W.heap.size + 1) 26 #[.int .i64 t2.kind, .int .i64 t2.int, .string ⟨t2.name.toArray⟩, .slice A2 n2 c2] ∧ Blk V (W.heap.size + 1 + 1) 26 #[.int .i64 0, .int .i64 0, .string ⟨#[]⟩, .slice none 0 0]) ⟨below_step (below_step (below_alloc _ _) (below_alloc _ _)) (below_alloc _ _), (((Blk.newAt (by first | (with_reducible rfl) | simp)).alloc _).alloc _), ((Blk.newAt (by first | (with_reducible rfl) | simp)).alloc _), (Blk.newAt (by first | (with_reducible rfl) | simp))⟩ ?_
      rintro V ⟨hb, hq1, hq2, hz⟩
      have HB := Lib.hid hb
      have HKq1 := Lib.hid hq1
      have HKq2 := Lib.hid hq2
      have HKz := Lib.hid hz
      have q10 := HKq1.out.cell 0
      have q11 := HKq1.out.cell 1
      have q12 := HKq1.out.cell 2
      have q13 := HKq1.out.cell 3
      have q1f0 := HKq1.out.frozen 0
      have q1f1 := HKq1.out.frozen 1
      have q1f2 := HKq1.out.frozen 2
      have q1f3 := HKq1.out.frozen 3
      have q20 := HKq2.out.cell 0
      have q21 := HKq2.out.cell 1
      have q22 := HKq2.out.cell 2
      have q23 := HKq2.out.cell 3
      have q2f0 := HKq2.out.frozen 0
      have q2f1 := HKq2.out.frozen 1
      have q2f2 := HKq2.out.frozen 2
      have q2f3 := HKq2.out.frozen 3
      have z0 := HKz.out.cell 0
      have z1 := HKz.out.cell 1
      have z2 := HKz.out.cell 2
      have z3 := HKz.out.cell 3
      have zf0 := HKz.out.frozen 0
      have zf1 := HKz.out.frozen 1
      have zf2 := HKz.out.frozen 2
      have zf3 := HKz.out.frozen 3
      clear hb hq1 hq2 hz
      go_wp2_with (go_at_call 27; refine (rcmp_v (X := (fun k => X k ∨ k = W.heap.size + 1 + 1)) (Y := (fun k => X k ∨ k = W.heap.size + 1 + 1)) (H1.out.up HB.out (by omega)) (H2.out.up HB.out (by omega))).mono ?_; rintro e V ⟨rfl, hb1⟩; have HKq1 := Lib.hid (HKq1.out.keep hb1); have HKq2 := Lib.hid (HKq2.out.keep hb1); have HKz := Lib.hid (HKz.out.keep hb1); have HB := Lib.hid (below_step HB.out hb1); have q10 := HKq1.out.cell 0; have q11 := HKq1.out.cell 1; have q12 := HKq1.out.cell 2; have q13 := HKq1.out.cell 3; have q1f0 := HKq1.out.frozen 0; have q1f1 := HKq1.out.frozen 1; have q1f2 := HKq1.out.frozen 2; have q1f3 := HKq1.out.frozen 3; have q20 := HKq2.out.cell 0; have q21 := HKq2.out.cell 1; have q22 := HKq2.out.cell 2; have q23 := HKq2.out.cell 3; have q2f0 := HKq2.out.frozen 0; have q2f1 := HKq2.out.frozen 1; have q2f2 := HKq2.out.frozen 2; have q2f3 := HKq2.out.frozen 3; have z0 := HKz.out.cell 0; have z1 := HKz.out.cell 1; have z2 := HKz.out.cell 2; have z3 := HKz.out.cell 3; have zf0 := HKz.out.frozen 0; have zf1 := HKz.out.frozen 1; have zf2 := HKz.out.frozen 2; have zf3 := HKz.out.frozen 3; clear hb1; have k1 := Ik1.out; have k2 := Ik2.out)
      have hB2 := HKz.out.set4 (.int .i64 0) (.int .i64 0) (.string ⟨#[]⟩) (.slice none 0 0)
      have y0 := hB2.cell 0
      have y1 := hB2.cell 1
      have y2 := hB2.cell 2
      have y3 := hB2.cell 3
      refine bodyPost_ret (v := .tuple #[.agg #[.int .i64 0, .int .i64 0, .string ⟨#[]⟩, .slice none 0 0], .string ⟨(sArg).toArray⟩]) (by simp [results, Tryz.results24, go_sem, y0, y1, y2, y3, sArg]) rfl ?_
      obtain ⟨g1, g2⟩ := fin4 (X := X) (p := W.heap.size + 1 + 1) HB.out (by omega) (tex_z _ _)
      exact ⟨_, rfl, g1, g2⟩
  · rw [if_neg (fun h => k1 h.1)]
    clear hl2 hn9 hww
    have Ik1 := Lib.hid k1
    clear k1
    go_enter Tryz.func24, Tryz.ntmps24
    go_upto_region 1 with (fail)
    refine wp_world (fun V => Below W.heap.size W V ∧ Blk V (W.heap.size) 26 #[.int .i64 t1.kind, .int .i64 t1.int, .string ⟨t1.name.toArray⟩, .slice A1 n1 c1] ∧ Blk V (W.heap.size + 1) 26 #[.int .i64 t2.kind, .int .i64 t2.int, .string ⟨t2.name.toArray⟩, .slice A2 n2 c2] ∧ Blk V (W.heap.size + 1 + 1) 26 #[.int .i64 0, .int .i64 0, .string ⟨#[]⟩, .slice none 0 0]) ⟨below_step (below_step (below_alloc _ _) (below_alloc _ _)) (below_alloc _ _), (((Blk.newAt (by first | (with_reducible rfl) | simp)).alloc _).alloc _), ((Blk.newAt (by first | (with_reducible rfl) | simp)).alloc _), (Blk.newAt (by first | (with_reducible rfl) | simp))⟩ ?_
    rintro V ⟨hb, hq1, hq2, hz⟩
    have HB := Lib.hid hb
    have HKq1 := Lib.hid hq1
    have HKq2 := Lib.hid hq2
    have HKz := Lib.hid hz
    have q10 := HKq1.out.cell 0
    have q11 := HKq1.out.cell 1
    have q12 := HKq1.out.cell 2
    have q13 := HKq1.out.cell 3
    have q1f0 := HKq1.out.frozen 0
    have q1f1 := HKq1.out.frozen 1
    have q1f2 := HKq1.out.frozen 2
    have q1f3 := HKq1.out.frozen 3
    have q20 := HKq2.out.cell 0
    have q21 := HKq2.out.cell 1
    have q22 := HKq2.out.cell 2
    have q23 := HKq2.out.cell 3
    have q2f0 := HKq2.out.frozen 0
    have q2f1 := HKq2.out.frozen 1
    have q2f2 := HKq2.out.frozen 2
    have q2f3 := HKq2.out.frozen 3
    have z0 := HKz.out.cell 0
    have z1 := HKz.out.cell 1
    have z2 := HKz.out.cell 2
    have z3 := HKz.out.cell 3
    have zf0 := HKz.out.frozen 0
    have zf1 := HKz.out.frozen 1
    have zf2 := HKz.out.frozen 2
    have zf3 := HKz.out.frozen 3
    clear hb hq1 hq2 hz
    go_wp2_with (go_at_call 27; refine (rcmp_v (X := (fun k => X k ∨ k = W.heap.size + 1 + 1)) (Y := (fun k => X k ∨ k = W.heap.size + 1 + 1)) (H1.out.up HB.out (by omega)) (H2.out.up HB.out (by omega))).mono ?_; rintro e V ⟨rfl, hb1⟩; have HKq1 := Lib.hid (HKq1.out.keep hb1); have HKq2 := Lib.hid (HKq2.out.keep hb1); have HKz := Lib.hid (HKz.out.keep hb1); have HB := Lib.hid (below_step HB.out hb1); have q10 := HKq1.out.cell 0; have q11 := HKq1.out.cell 1; have q12 := HKq1.out.cell 2; have q13 := HKq1.out.cell 3; have q1f0 := HKq1.out.frozen 0; have q1f1 := HKq1.out.frozen 1; have q1f2 := HKq1.out.frozen 2; have q1f3 := HKq1.out.frozen 3; have q20 := HKq2.out.cell 0; have q21 := HKq2.out.cell 1; have q22 := HKq2.out.cell 2; have q23 := HKq2.out.cell 3; have q2f0 := HKq2.out.frozen 0; have q2f1 := HKq2.out.frozen 1; have q2f2 := HKq2.out.frozen 2; have q2f3 := HKq2.out.frozen 3; have z0 := HKz.out.cell 0; have z1 := HKz.out.cell 1; have z2 := HKz.out.cell 2; have z3 := HKz.out.cell 3; have zf0 := HKz.out.frozen 0; have zf1 := HKz.out.frozen 1; have zf2 := HKz.out.frozen 2; have zf3 := HKz.out.frozen 3; clear hb1; have k1 := Ik1.out)
    have hB2 := HKz.out.set4 (.int .i64 0) (.int .i64 0) (.string ⟨#[]⟩) (.slice none 0 0)
    have y0 := hB2.cell 0
    have y1 := hB2.cell 1
    have y2 := hB2.cell 2
    have y3 := hB2.cell 3
    refine bodyPost_ret (v := .tuple #[.agg #[.int .i64 0, .int .i64 0, .string ⟨#[]⟩, .slice none 0 0], .string ⟨(sArg).toArray⟩]) (by simp [results, Tryz.results24, go_sem, y0, y1, y2, y3, sArg]) rfl ?_
    obtain ⟨g1, g2⟩ := fin4 (X := X) (p := W.heap.size + 1 + 1) HB.out (by omega) (tex_z _ _)
    exact ⟨_, rfl, g1, g2⟩
set_option maxRecDepth 100000 in
set_option maxHeartbeats 1000000 in
theorem rtwo_other {X : Nat → Prop} (hX : ∀ k, X k → k < W.heap.size) (h1 : TEx X W u1 t1) (h2 : TEx X W u2 t2) {s : List UInt8} (hs : ∀ n ∈ twosN, ¬ s = n) : Calls Tryz.prog 24 #[.string ⟨s.toArray⟩, u1, u2] W (R2 X W (tZ, sUnd)) := by
  obtain ⟨A1, n1, c1, rfl, hn1⟩ := h1.form
  have H1 := Lib.hid h1
  have HN1 := Lib.hid hn1
  obtain ⟨A2, n2, c2, rfl, hn2⟩ := h2.form
  have H2 := Lib.hid h2
  have HN2 := Lib.hid hn2
  have HX := Lib.hid hX
  clear h1 hn1 h2 hn2 hX
  have d0 : (s == [43]) = false := by simpa using hs [43] (by simp [twosN])
  have d1 : (s == [45]) = false := by simpa using hs [45] (by simp [twosN])
  have d2 : (s == [42]) = false := by simpa using hs [42] (by simp [twosN])
  have d3 : (s == [100, 105, 118]) = false := by simpa using hs [100, 105, 118] (by simp [twosN])
  have d4 : (s == [114, 101, 109]) = false := by simpa using hs [114, 101, 109] (by simp [twosN])
  have d5 : (s == [61, 61]) = false := by simpa using hs [61, 61] (by simp [twosN])
  have d6 : (s == [47, 61]) = false := by simpa using hs [47, 61] (by simp [twosN])
  have d7 : (s == [60]) = false := by simpa using hs [60] (by simp [twosN])
  have d8 : (s == [62]) = false := by simpa using hs [62] (by simp [twosN])
  have d9 : (s == [61, 60]) = false := by simpa using hs [61, 60] (by simp [twosN])
  have d10 : (s == [62, 61]) = false := by simpa using hs [62, 61] (by simp [twosN])
  have d11 : (s == [97, 110, 100]) = false := by simpa using hs [97, 110, 100] (by simp [twosN])
  have d12 : (s == [111, 114]) = false := by simpa using hs [111, 114] (by simp [twosN])
  have d13 : (s == [99, 111, 110, 115]) = false := by simpa using hs [99, 111, 110, 115] (by simp [twosN])
  have d14 : (s == [101, 108, 101, 109, 101, 110, 116]) = false := by simpa using hs [101, 108, 101, 109, 101, 110, 116] (by simp [twosN])
  have d15 : (s == [97, 112, 112, 101, 110, 100]) = false := by simpa using hs [97, 112, 112, 101, 110, 100] (by simp [twosN])
  have D0 := Lib.hid d0
  have D1 := Lib.hid d1
  have D2 := Lib.hid d2
  have D3 := Lib.hid d3
  have D4 := Lib.hid d4
  have D5 := Lib.hid d5
  have D6 := Lib.hid d6
  have D7 := Lib.hid d7
  have D8 := Lib.hid d8
  have D9 := Lib.hid d9
  have D10 := Lib.hid d10
  have D11 := Lib.hid d11
  have D12 := Lib.hid d12
  have D13 := Lib.hid d13
  have D14 := Lib.hid d14
  have D15 := Lib.hid d15
  clear hs d0 d1 d2 d3 d4 d5 d6 d7 d8 d9 d10 d11 d12 d13 d14 d15
  go_enter Tryz.func24, Tryz.ntmps24
  go_upto_region 1 with (fail)
  refine wp_world (fun V => Below W.heap.size W V ∧ Blk V (W.heap.size) 26 #[.int .i64 t1.kind, .int .i64 t1.int, .string ⟨t1.name.toArray⟩, .slice A1 n1 c1] ∧ Blk V (W.heap.size + 1) 26 #[.int .i64 t2.kind, .int .i64 t2.int, .string ⟨t2.name.toArray⟩, .slice A2 n2 c2] ∧ Blk V (W.heap.size + 1 + 1) 26 #[.int .i64 0, .int .i64 0, .string ⟨#[]⟩, .slice none 0 0]) ⟨below_step (below_step (below_alloc _ _) (below_alloc _ _)) (below_alloc _ _), (((Blk.newAt (by first | (with_reducible rfl) | simp)).alloc _).alloc _), ((Blk.newAt (by first | (with_reducible rfl) | simp)).alloc _), (Blk.newAt (by first | (with_reducible rfl) | simp))⟩ ?_
  rintro V ⟨hb, hq1, hq2, hz⟩
  have HB := Lib.hid hb
  have HKq1 := Lib.hid hq1
  have HKq2 := Lib.hid hq2
  have HKz := Lib.hid hz
  have q10 := HKq1.out.cell 0
  have q11 := HKq1.out.cell 1
  have q12 := HKq1.out.cell 2
  have q13 := HKq1.out.cell 3
  have q1f0 := HKq1.out.frozen 0
  have q1f1 := HKq1.out.frozen 1
  have q1f2 := HKq1.out.frozen 2
  have q1f3 := HKq1.out.frozen 3
  have q20 := HKq2.out.cell 0
  have q21 := HKq2.out.cell 1
  have q22 := HKq2.out.cell 2
  have q23 := HKq2.out.cell 3
  have q2f0 := HKq2.out.frozen 0
  have q2f1 := HKq2.out.frozen 1
  have q2f2 := HKq2.out.frozen 2
  have q2f3 := HKq2.out.frozen 3
  have z0 := HKz.out.cell 0
  have z1 := HKz.out.cell 1
  have z2 := HKz.out.cell 2
  have z3 := HKz.out.cell 3
  have zf0 := HKz.out.frozen 0
  have zf1 := HKz.out.frozen 1
  have zf2 := HKz.out.frozen 2
  have zf3 := HKz.out.frozen 3
  clear hb hq1 hq2 hz
  have d0 := D0.out
  have d1 := D1.out
  have d2 := D2.out
  have d3 := D3.out
  have d4 := D4.out
  have d5 := D5.out
  have d6 := D6.out
  have d7 := D7.out
  have d8 := D8.out
  have d9 := D9.out
  have d10 := D10.out
  have d11 := D11.out
  have d12 := D12.out
  have d13 := D13.out
  have d14 := D14.out
  have d15 := D15.out
  go_wp2_with (go_at_call 27; refine (rcmp_v (X := (fun k => X k ∨ k = W.heap.size + 1 + 1)) (Y := (fun k => X k ∨ k = W.heap.size + 1 + 1)) (H1.out.up HB.out (by omega)) (H2.out.up HB.out (by omega))).mono ?_; rintro e V ⟨rfl, hb1⟩; have HKq1 := Lib.hid (HKq1.out.keep hb1); have HKq2 := Lib.hid (HKq2.out.keep hb1); have HKz := Lib.hid (HKz.out.keep hb1); have HB := Lib.hid (below_step HB.out hb1); have q10 := HKq1.out.cell 0; have q11 := HKq1.out.cell 1; have q12 := HKq1.out.cell 2; have q13 := HKq1.out.cell 3; have q1f0 := HKq1.out.frozen 0; have q1f1 := HKq1.out.frozen 1; have q1f2 := HKq1.out.frozen 2; have q1f3 := HKq1.out.frozen 3; have q20 := HKq2.out.cell 0; have q21 := HKq2.out.cell 1; have q22 := HKq2.out.cell 2; have q23 := HKq2.out.cell 3; have q2f0 := HKq2.out.frozen 0; have q2f1 := HKq2.out.frozen 1; have q2f2 := HKq2.out.frozen 2; have q2f3 := HKq2.out.frozen 3; have z0 := HKz.out.cell 0; have z1 := HKz.out.cell 1; have z2 := HKz.out.cell 2; have z3 := HKz.out.cell 3; have zf0 := HKz.out.frozen 0; have zf1 := HKz.out.frozen 1; have zf2 := HKz.out.frozen 2; have zf3 := HKz.out.frozen 3; clear hb1)
  have hB2 := HKz.out.set4 (.int .i64 0) (.int .i64 0) (.string ⟨#[]⟩) (.slice none 0 0)
  have y0 := hB2.cell 0
  have y1 := hB2.cell 1
  have y2 := hB2.cell 2
  have y3 := hB2.cell 3
  refine bodyPost_ret (v := .tuple #[.agg #[.int .i64 0, .int .i64 0, .string ⟨#[]⟩, .slice none 0 0], .string ⟨(sUnd).toArray⟩]) (by simp [results, Tryz.results24, go_sem, y0, y1, y2, y3, sUnd]) rfl ?_
  obtain ⟨g1, g2⟩ := fin4 (X := X) (p := W.heap.size + 1 + 1) HB.out (by omega) (tex_z _ _)
  exact ⟨_, rfl, g1, g2⟩
end
end Go.Proofs.YtbpnlpjbjmojfaaGreat
