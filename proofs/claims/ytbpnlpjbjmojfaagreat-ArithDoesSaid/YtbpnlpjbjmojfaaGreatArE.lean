/- Arith (layer 14): the closures that need no list. Written by argene.py. -/
import Derived.Test.YtbpnlpjbjmojfaaGreatArD
namespace Go.Proofs.YtbpnlpjbjmojfaaGreat
open Go.RowKit
set_option linter.unusedVariables false
section
theorem ent_of {P : Program} {f : FuncId} {fn : Func} (h : P.funcs[f]? = some fn) (hn : (fn.name == "runtime.NumGoroutine") = false) (hb : fn.body.isNone = false) : ∀ args w, (callFunc f args).run P w = .ok (.enter f args) w := by
  intro args w
  have h1 : ¬ fn.name = "runtime.NumGoroutine" := by simpa using hn
  have h2 : ¬ fn.body = none := fun e => by rw [e] at hb; cases hb
  simp [callFunc, h, h1, h2, go_sem]
variable {W V V' : World} {u u1 u2 : Value} {t t1 t2 : TV}

set_option maxRecDepth 100000 in
set_option maxHeartbeats 1000000 in
theorem numbers1_v {X : Nat → Prop} (hX : ∀ k, X k → k < W.heap.size) (h1 : TEx X W u1 t1) (h2 : TEx X W u2 t2) {fid : Nat} {caps : Array Value} {g : Nat} (eg : ∀ args w, (callFunc fid args).run Tryz.prog w = .ok (.enter fid args) w) (hg : Blk W g 73 #[.func (.func fid) #[] caps]) {f : TV × List UInt8} (hf : t1.kind = 1 → t2.kind = 1 → ∀ V X', Below W.heap.size W V → (∀ k, X' k → k < V.heap.size) → Calls Tryz.prog fid (#[.int .i64 t1.int, .int .i64 t2.int] ++ caps) V (R2 X' V f)) :
    Calls Tryz.prog 92 #[u1, u2, .pointer (some ⟨g, 0, none⟩)] W (R2 X W (if t1.kind = 1 ∧ t2.kind = 1 then f else (tZ, sAri))) := by
  obtain ⟨A1, n1, c1, rfl, hn1⟩ := h1.form
  have H1 := Lib.hid h1
  have HN1 := Lib.hid hn1
  obtain ⟨A2, n2, c2, rfl, hn2⟩ := h2.form
  have H2 := Lib.hid h2
  have HN2 := Lib.hid hn2
  have HX := Lib.hid hX
  clear h1 hn1 h2 hn2 hX
  have HKg := Lib.hid hg
  have HF := Lib.hid hf
  clear hg hf
  by_cases k1 : t1.kind = 1
  · by_cases k2 : t2.kind = 1
    · rw [if_pos ⟨k1, k2⟩]
      replace HF := Lib.hid (HF.out k1 k2)
      have Ik1 := Lib.hid k1
      have Ik2 := Lib.hid k2
      clear k1 k2
      go_enter Tryz.func92, Tryz.ntmps92
      go_upto_region 1 with (fail)
      refine wp_world (fun V => Below W.heap.size W V ∧ Blk V (W.heap.size) 26 #[.int .i64 t1.kind, .int .i64 t1.int, .string ⟨t1.name.toArray⟩, .slice A1 n1 c1] ∧ Blk V (W.heap.size + 1) 26 #[.int .i64 t2.kind, .int .i64 t2.int, .string ⟨t2.name.toArray⟩, .slice A2 n2 c2] ∧ Blk V (W.heap.size + 1 + 1) 26 #[.int .i64 0, .int .i64 0, .string ⟨#[]⟩, .slice none 0 0] ∧ Blk V (g) 73 #[.func (.func fid) #[] caps]) ⟨below_step (below_step (below_alloc _ _) (below_alloc _ _)) (below_alloc _ _), (((Blk.newAt (by first | (with_reducible rfl) | simp)).alloc _).alloc _), ((Blk.newAt (by first | (with_reducible rfl) | simp)).alloc _), (Blk.newAt (by first | (with_reducible rfl) | simp)), (((HKg.out.alloc _).alloc _).alloc _)⟩ ?_
      rintro V ⟨hb, hq1, hq2, hz, hg⟩
      have HB := Lib.hid hb
      have HKq1 := Lib.hid hq1
      have HKq2 := Lib.hid hq2
      have HKz := Lib.hid hz
      have HKg := Lib.hid hg
      have q10 := HKq1.out.cell 0
      have q11 := HKq1.out.cell 1
      have q12 := HKq1.out.cell 2
      have q13 := HKq1.out.cell 3
      have q1f0 := HKq1.out.frozen 0
      have q1f1 := HKq1.out.frozen 1
      have q1f2 := HKq1.out.frozen 2
      have q1f3 := HKq1.out.frozen 3
      have q20 := HKq2.out.cell 0
      have q21 := HKq2.out.cell 1
      have q22 := HKq2.out.cell 2
      have q23 := HKq2.out.cell 3
      have q2f0 := HKq2.out.frozen 0
      have q2f1 := HKq2.out.frozen 1
      have q2f2 := HKq2.out.frozen 2
      have q2f3 := HKq2.out.frozen 3
      have z0 := HKz.out.cell 0
      have z1 := HKz.out.cell 1
      have z2 := HKz.out.cell 2
      have z3 := HKz.out.cell 3
      have zf0 := HKz.out.frozen 0
      have zf1 := HKz.out.frozen 1
      have zf2 := HKz.out.frozen 2
      have zf3 := HKz.out.frozen 3
      have g0 := HKg.out.cell 0
      have gf0 := HKg.out.frozen 0
      clear hb hq1 hq2 hz hg
      have k1 := Ik1.out
      have k2 := Ik2.out
      go_wp2_with (refine (HF.out V (fun k => X k ∨ k = W.heap.size + 1 + 1) HB.out (by rintro k (hk | rfl); exact Nat.lt_of_lt_of_le (HX.out k hk) HB.out.size; exact HKz.out.lt)).mono ?_; rintro e w1 ⟨v, rfl, hT, hb1⟩; obtain ⟨A9, n9, c9, rfl, hn⟩ := hT.form; have HT := Lib.hid hT; have HKq1 := Lib.hid (HKq1.out.keep hb1); have HKq2 := Lib.hid (HKq2.out.keep hb1); have HKz := Lib.hid (HKz.out.keep hb1); have HKg := Lib.hid (HKg.out.keep hb1); have HB := Lib.hid (below_step HB.out hb1); have q10 := HKq1.out.cell 0; have q11 := HKq1.out.cell 1; have q12 := HKq1.out.cell 2; have q13 := HKq1.out.cell 3; have q1f0 := HKq1.out.frozen 0; have q1f1 := HKq1.out.frozen 1; have q1f2 := HKq1.out.frozen 2; have q1f3 := HKq1.out.frozen 3; have q20 := HKq2.out.cell 0; have q21 := HKq2.out.cell 1; have q22 := HKq2.out.cell 2; have q23 := HKq2.out.cell 3; have q2f0 := HKq2.out.frozen 0; have q2f1 := HKq2.out.frozen 1; have q2f2 := HKq2.out.frozen 2; have q2f3 := HKq2.out.frozen 3; have z0 := HKz.out.cell 0; have z1 := HKz.out.cell 1; have z2 := HKz.out.cell 2; have z3 := HKz.out.cell 3; have zf0 := HKz.out.frozen 0; have zf1 := HKz.out.frozen 1; have zf2 := HKz.out.frozen 2; have zf3 := HKz.out.frozen 3; have g0 := HKg.out.cell 0; have gf0 := HKg.out.frozen 0; clear hn hT hb1)
      have hB2 := HKz.out.set4 (.int .i64 (f.1).kind) (.int .i64 (f.1).int) (.string ⟨(f.1).name.toArray⟩) (.slice A9 n9 c9)
      have y0 := hB2.cell 0
      have y1 := hB2.cell 1
      have y2 := hB2.cell 2
      have y3 := hB2.cell 3
      refine bodyPost_ret (v := .tuple #[.agg #[.int .i64 (f.1).kind, .int .i64 (f.1).int, .string ⟨(f.1).name.toArray⟩, .slice A9 n9 c9], .string ⟨(f.2).toArray⟩]) (by simp [results, Tryz.results92, go_sem, y0, y1, y2, y3]) rfl ?_
      obtain ⟨g1, g2⟩ := fin4 (X := X) HB.out (by omega) HT.out
      exact ⟨_, rfl, g1, g2⟩
    · rw [if_neg (fun h => k2 h.2)]
      have Ik1 := Lib.hid k1
      have Ik2 := Lib.hid k2
      clear k1 k2
      go_enter Tryz.func92, Tryz.ntmps92
      go_upto_region 1 with (fail)
      refine wp_world (fun V => Below W.heap.size W V ∧ Blk V (W.heap.size) 26 #[.int .i64 t1.kind, .int .i64 t1.int, .string ⟨t1.name.toArray⟩, .slice A1 n1 c1] ∧ Blk V (W.heap.size + 1) 26 #[.int .i64 t2.kind, .int .i64 t2.int, .string ⟨t2.name.toArray⟩, .slice A2 n2 c2] ∧ Blk V (W.heap.size + 1 + 1) 26 #[.int .i64 0, .int .i64 0, .string ⟨#[]⟩, .slice none 0 0] ∧ Blk V (g) 73 #[.func (.func fid) #[] caps]) ⟨below_step (below_step (below_alloc _ _) (below_alloc _ _)) (below_alloc _ _), (((Blk.newAt (by first | (with_reducible rfl) | simp)).alloc _).alloc _), ((Blk.newAt (by first | (with_reducible rfl) | simp)).alloc _), (Blk.newAt (by first | (with_reducible rfl) | simp)), (((HKg.out.alloc _).alloc _).alloc _)⟩ ?_
      rintro V ⟨hb, hq1, hq2, hz, hg⟩
      have HB := Lib.hid hb
      have HKq1 := Lib.hid hq1
      have HKq2 := Lib.hid hq2
      have HKz := Lib.hid hz
      have HKg := Lib.hid hg
      have q10 := HKq1.out.cell 0
      have q11 := HKq1.out.cell 1
      have q12 := HKq1.out.cell 2
      have q13 := HKq1.out.cell 3
      have q1f0 := HKq1.out.frozen 0
      have q1f1 := HKq1.out.frozen 1
      have q1f2 := HKq1.out.frozen 2
      have q1f3 := HKq1.out.frozen 3
      have q20 := HKq2.out.cell 0
      have q21 := HKq2.out.cell 1
      have q22 := HKq2.out.cell 2
      have q23 := HKq2.out.cell 3
      have q2f0 := HKq2.out.frozen 0
      have q2f1 := HKq2.out.frozen 1
      have q2f2 := HKq2.out.frozen 2
      have q2f3 := HKq2.out.frozen 3
      have z0 := HKz.out.cell 0
      have z1 := HKz.out.cell 1
      have z2 := HKz.out.cell 2
      have z3 := HKz.out.cell 3
      have zf0 := HKz.out.frozen 0
      have zf1 := HKz.out.frozen 1
      have zf2 := HKz.out.frozen 2
      have zf3 := HKz.out.frozen 3
      have g0 := HKg.out.cell 0
      have gf0 := HKg.out.frozen 0
      clear hb hq1 hq2 hz hg
      have k1 := Ik1.out
      have k2 := Ik2.out
      go_wp2_with (go_at_call 20; refine (wrong_v (fun k => X k ∨ k = W.heap.size + 1 + 1) sAri V).mono ?_; rintro e w1 ⟨v, rfl, hT, hb1⟩; obtain ⟨A9, n9, c9, rfl, hn⟩ := hT.form; have HT := Lib.hid hT; have HKq1 := Lib.hid (HKq1.out.keep hb1); have HKq2 := Lib.hid (HKq2.out.keep hb1); have HKz := Lib.hid (HKz.out.keep hb1); have HKg := Lib.hid (HKg.out.keep hb1); have HB := Lib.hid (below_step HB.out hb1); have q10 := HKq1.out.cell 0; have q11 := HKq1.out.cell 1; have q12 := HKq1.out.cell 2; have q13 := HKq1.out.cell 3; have q1f0 := HKq1.out.frozen 0; have q1f1 := HKq1.out.frozen 1; have q1f2 := HKq1.out.frozen 2; have q1f3 := HKq1.out.frozen 3; have q20 := HKq2.out.cell 0; have q21 := HKq2.out.cell 1; have q22 := HKq2.out.cell 2; have q23 := HKq2.out.cell 3; have q2f0 := HKq2.out.frozen 0; have q2f1 := HKq2.out.frozen 1; have q2f2 := HKq2.out.frozen 2; have q2f3 := HKq2.out.frozen 3; have z0 := HKz.out.cell 0; have z1 := HKz.out.cell 1; have z2 := HKz.out.cell 2; have z3 := HKz.out.cell 3; have zf0 := HKz.out.frozen 0; have zf1 := HKz.out.frozen 1; have zf2 := HKz.out.frozen 2; have zf3 := HKz.out.frozen 3; have g0 := HKg.out.cell 0; have gf0 := HKg.out.frozen 0; clear hn hT hb1)
      have hB2 := HKz.out.set4 (.int .i64 (tZ).kind) (.int .i64 (tZ).int) (.string ⟨(tZ).name.toArray⟩) (.slice A9 n9 c9)
      have y0 := hB2.cell 0
      have y1 := hB2.cell 1
      have y2 := hB2.cell 2
      have y3 := hB2.cell 3
      refine bodyPost_ret (v := .tuple #[.agg #[.int .i64 (tZ).kind, .int .i64 (tZ).int, .string ⟨(tZ).name.toArray⟩, .slice A9 n9 c9], .string ⟨(sAri).toArray⟩]) (by simp [results, Tryz.results92, go_sem, y0, y1, y2, y3]) rfl ?_
      obtain ⟨g1, g2⟩ := fin4 (X := X) HB.out (by omega) HT.out
      exact ⟨_, rfl, g1, g2⟩
  · rw [if_neg (fun h => k1 h.1)]
    have Ik1 := Lib.hid k1
    clear k1
    go_enter Tryz.func92, Tryz.ntmps92
    go_upto_region 1 with (fail)
    refine wp_world (fun V => Below W.heap.size W V ∧ Blk V (W.heap.size) 26 #[.int .i64 t1.kind, .int .i64 t1.int, .string ⟨t1.name.toArray⟩, .slice A1 n1 c1] ∧ Blk V (W.heap.size + 1) 26 #[.int .i64 t2.kind, .int .i64 t2.int, .string ⟨t2.name.toArray⟩, .slice A2 n2 c2] ∧ Blk V (W.heap.size + 1 + 1) 26 #[.int .i64 0, .int .i64 0, .string ⟨#[]⟩, .slice none 0 0] ∧ Blk V (g) 73 #[.func (.func fid) #[] caps]) ⟨below_step (below_step (below_alloc _ _) (below_alloc _ _)) (below_alloc _ _), (((Blk.newAt (by first | (with_reducible rfl) | simp)).alloc _).alloc _), ((Blk.newAt (by first | (with_reducible rfl) | simp)).alloc _), (Blk.newAt (by first | (with_reducible rfl) | simp)), (((HKg.out.alloc _).alloc _).alloc _)⟩ ?_
    rintro V ⟨hb, hq1, hq2, hz, hg⟩
    have HB := Lib.hid hb
    have HKq1 := Lib.hid hq1
    have HKq2 := Lib.hid hq2
    have HKz := Lib.hid hz
    have HKg := Lib.hid hg
    have q10 := HKq1.out.cell 0
    have q11 := HKq1.out.cell 1
    have q12 := HKq1.out.cell 2
    have q13 := HKq1.out.cell 3
    have q1f0 := HKq1.out.frozen 0
    have q1f1 := HKq1.out.frozen 1
    have q1f2 := HKq1.out.frozen 2
    have q1f3 := HKq1.out.frozen 3
    have q20 := HKq2.out.cell 0
    have q21 := HKq2.out.cell 1
    have q22 := HKq2.out.cell 2
    have q23 := HKq2.out.cell 3
    have q2f0 := HKq2.out.frozen 0
    have q2f1 := HKq2.out.frozen 1
    have q2f2 := HKq2.out.frozen 2
    have q2f3 := HKq2.out.frozen 3
    have z0 := HKz.out.cell 0
    have z1 := HKz.out.cell 1
    have z2 := HKz.out.cell 2
    have z3 := HKz.out.cell 3
    have zf0 := HKz.out.frozen 0
    have zf1 := HKz.out.frozen 1
    have zf2 := HKz.out.frozen 2
    have zf3 := HKz.out.frozen 3
    have g0 := HKg.out.cell 0
    have gf0 := HKg.out.frozen 0
    clear hb hq1 hq2 hz hg
    have k1 := Ik1.out
    go_wp2_with (go_at_call 20; refine (wrong_v (fun k => X k ∨ k = W.heap.size + 1 + 1) sAri V).mono ?_; rintro e w1 ⟨v, rfl, hT, hb1⟩; obtain ⟨A9, n9, c9, rfl, hn⟩ := hT.form; have HT := Lib.hid hT; have HKq1 := Lib.hid (HKq1.out.keep hb1); have HKq2 := Lib.hid (HKq2.out.keep hb1); have HKz := Lib.hid (HKz.out.keep hb1); have HKg := Lib.hid (HKg.out.keep hb1); have HB := Lib.hid (below_step HB.out hb1); have q10 := HKq1.out.cell 0; have q11 := HKq1.out.cell 1; have q12 := HKq1.out.cell 2; have q13 := HKq1.out.cell 3; have q1f0 := HKq1.out.frozen 0; have q1f1 := HKq1.out.frozen 1; have q1f2 := HKq1.out.frozen 2; have q1f3 := HKq1.out.frozen 3; have q20 := HKq2.out.cell 0; have q21 := HKq2.out.cell 1; have q22 := HKq2.out.cell 2; have q23 := HKq2.out.cell 3; have q2f0 := HKq2.out.frozen 0; have q2f1 := HKq2.out.frozen 1; have q2f2 := HKq2.out.frozen 2; have q2f3 := HKq2.out.frozen 3; have z0 := HKz.out.cell 0; have z1 := HKz.out.cell 1; have z2 := HKz.out.cell 2; have z3 := HKz.out.cell 3; have zf0 := HKz.out.frozen 0; have zf1 := HKz.out.frozen 1; have zf2 := HKz.out.frozen 2; have zf3 := HKz.out.frozen 3; have g0 := HKg.out.cell 0; have gf0 := HKg.out.frozen 0; clear hn hT hb1)
    have hB2 := HKz.out.set4 (.int .i64 (tZ).kind) (.int .i64 (tZ).int) (.string ⟨(tZ).name.toArray⟩) (.slice A9 n9 c9)
    have y0 := hB2.cell 0
    have y1 := hB2.cell 1
    have y2 := hB2.cell 2
    have y3 := hB2.cell 3
    refine bodyPost_ret (v := .tuple #[.agg #[.int .i64 (tZ).kind, .int .i64 (tZ).int, .string ⟨(tZ).name.toArray⟩, .slice A9 n9 c9], .string ⟨(sAri).toArray⟩]) (by simp [results, Tryz.results92, go_sem, y0, y1, y2, y3]) rfl ?_
    obtain ⟨g1, g2⟩ := fin4 (X := X) HB.out (by omega) HT.out
    exact ⟨_, rfl, g1, g2⟩
set_option maxRecDepth 100000 in
set_option maxHeartbeats 1000000 in
theorem parts1_v {X : Nat → Prop} (hX : ∀ k, X k → k < W.heap.size) (a b z : Int) {fid : Nat} {caps : Array Value} {g : Nat} (eg : ∀ args w, (callFunc fid args).run Tryz.prog w = .ok (.enter fid args) w) (hg : Blk W g 75 #[.func (.func fid) #[] caps]) (hf : ¬ b = 0 → ∀ V, Below W.heap.size W V → Calls Tryz.prog fid (#[.int .i64 a, .int .i64 b] ++ caps) V fun e w' => e = .returned (.int .i64 z) ∧ Below V.heap.size V w') :
    Calls Tryz.prog 95 #[.int .i64 a, .int .i64 b, .pointer (some ⟨g, 0, none⟩)] W (R2 X W (if b = 0 then (tZ, sAri) else numP z)) := by
  have HX := Lib.hid hX
  have HKg := Lib.hid hg
  have HF := Lib.hid hf
  clear hX hg hf
  by_cases k1 : b = 0
  · rw [if_pos k1]
    subst k1
    go_enter Tryz.func95, Tryz.ntmps95
    go_upto_region 1 with (fail)
    refine wp_world (fun V => Below W.heap.size W V ∧ Blk V (W.heap.size) 26 #[.int .i64 0, .int .i64 0, .string ⟨#[]⟩, .slice none 0 0] ∧ Blk V (g) 75 #[.func (.func fid) #[] caps]) ⟨below_alloc _ _, (Blk.newAt (by first | (with_reducible rfl) | simp)), (HKg.out.alloc _)⟩ ?_
    rintro V ⟨hb, hz, hg⟩
    have HB := Lib.hid hb
    have HKz := Lib.hid hz
    have HKg := Lib.hid hg
    have z0 := HKz.out.cell 0
    have z1 := HKz.out.cell 1
    have z2 := HKz.out.cell 2
    have z3 := HKz.out.cell 3
    have zf0 := HKz.out.frozen 0
    have zf1 := HKz.out.frozen 1
    have zf2 := HKz.out.frozen 2
    have zf3 := HKz.out.frozen 3
    have g0 := HKg.out.cell 0
    have gf0 := HKg.out.frozen 0
    clear hb hz hg
    go_wp2_with (go_at_call 20; refine (wrong_v (fun k => X k ∨ k = W.heap.size) sAri V).mono ?_; rintro e w1 ⟨v, rfl, hT, hb1⟩; obtain ⟨A9, n9, c9, rfl, hn⟩ := hT.form; have HT := Lib.hid hT; have HKz := Lib.hid (HKz.out.keep hb1); have HKg := Lib.hid (HKg.out.keep hb1); have HB := Lib.hid (below_step HB.out hb1); have z0 := HKz.out.cell 0; have z1 := HKz.out.cell 1; have z2 := HKz.out.cell 2; have z3 := HKz.out.cell 3; have zf0 := HKz.out.frozen 0; have zf1 := HKz.out.frozen 1; have zf2 := HKz.out.frozen 2; have zf3 := HKz.out.frozen 3; have g0 := HKg.out.cell 0; have gf0 := HKg.out.frozen 0; clear hn hT hb1)
    have hB2 := HKz.out.set4 (.int .i64 (tZ).kind) (.int .i64 (tZ).int) (.string ⟨(tZ).name.toArray⟩) (.slice A9 n9 c9)
    have y0 := hB2.cell 0
    have y1 := hB2.cell 1
    have y2 := hB2.cell 2
    have y3 := hB2.cell 3
    refine bodyPost_ret (v := .tuple #[.agg #[.int .i64 (tZ).kind, .int .i64 (tZ).int, .string ⟨(tZ).name.toArray⟩, .slice A9 n9 c9], .string ⟨(sAri).toArray⟩]) (by simp [results, Tryz.results95, go_sem, y0, y1, y2, y3]) rfl ?_
    obtain ⟨g1, g2⟩ := fin4 (X := X) HB.out (by omega) HT.out
    exact ⟨_, rfl, g1, g2⟩
  · rw [if_neg k1]
    replace HF := Lib.hid (HF.out k1)
    have Ik1 := Lib.hid k1
    clear k1
    go_enter Tryz.func95, Tryz.ntmps95
    go_upto_region 1 with (fail)
    refine wp_world (fun V => Below W.heap.size W V ∧ Blk V (W.heap.size) 26 #[.int .i64 0, .int .i64 0, .string ⟨#[]⟩, .slice none 0 0] ∧ Blk V (g) 75 #[.func (.func fid) #[] caps]) ⟨below_alloc _ _, (Blk.newAt (by first | (with_reducible rfl) | simp)), (HKg.out.alloc _)⟩ ?_
    rintro V ⟨hb, hz, hg⟩
    have HB := Lib.hid hb
    have HKz := Lib.hid hz
    have HKg := Lib.hid hg
    have z0 := HKz.out.cell 0
    have z1 := HKz.out.cell 1
    have z2 := HKz.out.cell 2
    have z3 := HKz.out.cell 3
    have zf0 := HKz.out.frozen 0
    have zf1 := HKz.out.frozen 1
    have zf2 := HKz.out.frozen 2
    have zf3 := HKz.out.frozen 3
    have g0 := HKg.out.cell 0
    have gf0 := HKg.out.frozen 0
    clear hb hz hg
    have k1 := Ik1.out
    go_wp2_with (first | (refine (HF.out V HB.out).mono ?_; rintro e V ⟨rfl, hb1⟩; have HKz := Lib.hid (HKz.out.keep hb1); have HKg := Lib.hid (HKg.out.keep hb1); have HB := Lib.hid (below_step HB.out hb1); have z0 := HKz.out.cell 0; have z1 := HKz.out.cell 1; have z2 := HKz.out.cell 2; have z3 := HKz.out.cell 3; have zf0 := HKz.out.frozen 0; have zf1 := HKz.out.frozen 1; have zf2 := HKz.out.frozen 2; have zf3 := HKz.out.frozen 3; have g0 := HKg.out.cell 0; have gf0 := HKg.out.frozen 0; clear hb1) | (go_at_call 34; refine (number_v (X := (fun k => X k ∨ k = W.heap.size)) (W := V) (by rintro k (hk | rfl); exact Nat.lt_of_lt_of_le (HX.out k hk) HB.out.size; exact HKz.out.lt) z).mono ?_; rintro e w1 ⟨v, rfl, hT, hb1⟩; obtain ⟨A9, n9, c9, rfl, hn⟩ := hT.form; have HT := Lib.hid hT; have HKz := Lib.hid (HKz.out.keep hb1); have HKg := Lib.hid (HKg.out.keep hb1); have HB := Lib.hid (below_step HB.out hb1); have z0 := HKz.out.cell 0; have z1 := HKz.out.cell 1; have z2 := HKz.out.cell 2; have z3 := HKz.out.cell 3; have zf0 := HKz.out.frozen 0; have zf1 := HKz.out.frozen 1; have zf2 := HKz.out.frozen 2; have zf3 := HKz.out.frozen 3; have g0 := HKg.out.cell 0; have gf0 := HKg.out.frozen 0; clear hn hT hb1))
    have hB2 := HKz.out.set4 (.int .i64 ((numP z).1).kind) (.int .i64 ((numP z).1).int) (.string ⟨((numP z).1).name.toArray⟩) (.slice A9 n9 c9)
    have y0 := hB2.cell 0
    have y1 := hB2.cell 1
    have y2 := hB2.cell 2
    have y3 := hB2.cell 3
    refine bodyPost_ret (v := .tuple #[.agg #[.int .i64 ((numP z).1).kind, .int .i64 ((numP z).1).int, .string ⟨((numP z).1).name.toArray⟩, .slice A9 n9 c9], .string ⟨((numP z).2).toArray⟩]) (by simp [results, Tryz.results95, go_sem, y0, y1, y2, y3]) rfl ?_
    obtain ⟨g1, g2⟩ := fin4 (X := X) HB.out (by omega) HT.out
    exact ⟨_, rfl, g1, g2⟩
set_option maxRecDepth 100000 in
set_option maxHeartbeats 1000000 in
theorem truths1_v {X : Nat → Prop} (hX : ∀ k, X k → k < W.heap.size) (h1 : TEx X W u1 t1) (h2 : TEx X W u2 t2) (b : Bool) {fid : Nat} {caps : Array Value} {g : Nat} (eg : ∀ args w, (callFunc fid args).run Tryz.prog w = .ok (.enter fid args) w) (hg : Blk W g 79 #[.func (.func fid) #[] caps]) (hf : ∀ V, Below W.heap.size W V → Calls Tryz.prog fid (#[.bool (lgP t1).1, .bool (lgP t2).1] ++ caps) V fun e w' => e = .returned (.bool b) ∧ Below V.heap.size V w') :
    Calls Tryz.prog 98 #[u1, u2, .pointer (some ⟨g, 0, none⟩)] W (R2 X W (if (lgP t1).2 = true ∧ (lgP t2).2 = true then (truT b, []) else (tZ, sArg))) := by
  obtain ⟨A1, n1, c1, rfl, hn1⟩ := h1.form
  have H1 := Lib.hid h1
  have HN1 := Lib.hid hn1
  obtain ⟨A2, n2, c2, rfl, hn2⟩ := h2.form
  have H2 := Lib.hid h2
  have HN2 := Lib.hid hn2
  have HX := Lib.hid hX
  clear h1 hn1 h2 hn2 hX
  have HKg := Lib.hid hg
  have HF := Lib.hid hf
  clear hg hf
  have HL1 : Hid (∀ V, Below W.heap.size W V → Calls Tryz.prog 36 #[.agg #[.int .i64 t1.kind, .int .i64 t1.int, .string ⟨t1.name.toArray⟩, .slice A1 n1 c1]] V fun e w' => e = .returned (.tuple #[.bool (lgP t1).1, .bool (lgP t1).2]) ∧ Below V.heap.size V w') := fun V hb => logic_v (X := X) (fun k hk => Nat.lt_of_lt_of_le (HX.out k hk) hb.size) (H1.out.below hb)
  have HL2 : Hid (∀ V, Below W.heap.size W V → Calls Tryz.prog 36 #[.agg #[.int .i64 t2.kind, .int .i64 t2.int, .string ⟨t2.name.toArray⟩, .slice A2 n2 c2]] V fun e w' => e = .returned (.tuple #[.bool (lgP t2).1, .bool (lgP t2).2]) ∧ Below V.heap.size V w') := fun V hb => logic_v (X := X) (fun k hk => Nat.lt_of_lt_of_le (HX.out k hk) hb.size) (H2.out.below hb)
  obtain ⟨x1, y1, hp1⟩ : ∃ x y, lgP t1 = (x, y) := ⟨_, _, rfl⟩
  obtain ⟨x2, y2, hp2⟩ : ∃ x y, lgP t2 = (x, y) := ⟨_, _, rfl⟩
  rw [hp1] at HL1 HF ⊢
  rw [hp2] at HL2 HF ⊢
  clear hp1 hp2
  cases y1 with
  | false =>
    rw [if_neg (fun h => by simp at h)]
    go_enter Tryz.func98, Tryz.ntmps98
    go_upto_region 1 with (fail)
    refine wp_world (fun V => Below W.heap.size W V ∧ Blk V (W.heap.size) 26 #[.int .i64 t1.kind, .int .i64 t1.int, .string ⟨t1.name.toArray⟩, .slice A1 n1 c1] ∧ Blk V (W.heap.size + 1) 26 #[.int .i64 t2.kind, .int .i64 t2.int, .string ⟨t2.name.toArray⟩, .slice A2 n2 c2] ∧ Blk V (W.heap.size + 1 + 1) 26 #[.int .i64 0, .int .i64 0, .string ⟨#[]⟩, .slice none 0 0] ∧ Blk V (g) 79 #[.func (.func fid) #[] caps]) ⟨below_step (below_step (below_alloc _ _) (below_alloc _ _)) (below_alloc _ _), (((Blk.newAt (by first | (with_reducible rfl) | simp)).alloc _).alloc _), ((Blk.newAt (by first | (with_reducible rfl) | simp)).alloc _), (Blk.newAt (by first | (with_reducible rfl) | simp)), (((HKg.out.alloc _).alloc _).alloc _)⟩ ?_
    rintro V ⟨hb, hq1, hq2, hz, hg⟩
    have HB := Lib.hid hb
    have HKq1 := Lib.hid hq1
    have HKq2 := Lib.hid hq2
    have HKz := Lib.hid hz
    have HKg := Lib.hid hg
    have q10 := HKq1.out.cell 0
    have q11 := HKq1.out.cell 1
    have q12 := HKq1.out.cell 2
    have q13 := HKq1.out.cell 3
    have q1f0 := HKq1.out.frozen 0
    have q1f1 := HKq1.out.frozen 1
    have q1f2 := HKq1.out.frozen 2
    have q1f3 := HKq1.out.frozen 3
    have q20 := HKq2.out.cell 0
    have q21 := HKq2.out.cell 1
    have q22 := HKq2.out.cell 2
    have q23 := HKq2.out.cell 3
    have q2f0 := HKq2.out.frozen 0
    have q2f1 := HKq2.out.frozen 1
    have q2f2 := HKq2.out.frozen 2
    have q2f3 := HKq2.out.frozen 3
    have z0 := HKz.out.cell 0
    have z1 := HKz.out.cell 1
    have z2 := HKz.out.cell 2
    have z3 := HKz.out.cell 3
    have zf0 := HKz.out.frozen 0
    have zf1 := HKz.out.frozen 1
    have zf2 := HKz.out.frozen 2
    have zf3 := HKz.out.frozen 3
    have g0 := HKg.out.cell 0
    have gf0 := HKg.out.frozen 0
    clear hb hq1 hq2 hz hg
    go_wp2_with (first | (go_at_call 36; with_reducible refine (HL1.out V HB.out).mono ?_; rintro e V ⟨rfl, hb1⟩; have HKq1 := Lib.hid (HKq1.out.keep hb1); have HKq2 := Lib.hid (HKq2.out.keep hb1); have HKz := Lib.hid (HKz.out.keep hb1); have HKg := Lib.hid (HKg.out.keep hb1); have HB := Lib.hid (below_step HB.out hb1); have q10 := HKq1.out.cell 0; have q11 := HKq1.out.cell 1; have q12 := HKq1.out.cell 2; have q13 := HKq1.out.cell 3; have q1f0 := HKq1.out.frozen 0; have q1f1 := HKq1.out.frozen 1; have q1f2 := HKq1.out.frozen 2; have q1f3 := HKq1.out.frozen 3; have q20 := HKq2.out.cell 0; have q21 := HKq2.out.cell 1; have q22 := HKq2.out.cell 2; have q23 := HKq2.out.cell 3; have q2f0 := HKq2.out.frozen 0; have q2f1 := HKq2.out.frozen 1; have q2f2 := HKq2.out.frozen 2; have q2f3 := HKq2.out.frozen 3; have z0 := HKz.out.cell 0; have z1 := HKz.out.cell 1; have z2 := HKz.out.cell 2; have z3 := HKz.out.cell 3; have zf0 := HKz.out.frozen 0; have zf1 := HKz.out.frozen 1; have zf2 := HKz.out.frozen 2; have zf3 := HKz.out.frozen 3; have g0 := HKg.out.cell 0; have gf0 := HKg.out.frozen 0; clear hb1) | (go_at_call 36; with_reducible refine (HL2.out V HB.out).mono ?_; rintro e V ⟨rfl, hb1⟩; have HKq1 := Lib.hid (HKq1.out.keep hb1); have HKq2 := Lib.hid (HKq2.out.keep hb1); have HKz := Lib.hid (HKz.out.keep hb1); have HKg := Lib.hid (HKg.out.keep hb1); have HB := Lib.hid (below_step HB.out hb1); have q10 := HKq1.out.cell 0; have q11 := HKq1.out.cell 1; have q12 := HKq1.out.cell 2; have q13 := HKq1.out.cell 3; have q1f0 := HKq1.out.frozen 0; have q1f1 := HKq1.out.frozen 1; have q1f2 := HKq1.out.frozen 2; have q1f3 := HKq1.out.frozen 3; have q20 := HKq2.out.cell 0; have q21 := HKq2.out.cell 1; have q22 := HKq2.out.cell 2; have q23 := HKq2.out.cell 3; have q2f0 := HKq2.out.frozen 0; have q2f1 := HKq2.out.frozen 1; have q2f2 := HKq2.out.frozen 2; have q2f3 := HKq2.out.frozen 3; have z0 := HKz.out.cell 0; have z1 := HKz.out.cell 1; have z2 := HKz.out.cell 2; have z3 := HKz.out.cell 3; have zf0 := HKz.out.frozen 0; have zf1 := HKz.out.frozen 1; have zf2 := HKz.out.frozen 2; have zf3 := HKz.out.frozen 3; have g0 := HKg.out.cell 0; have gf0 := HKg.out.frozen 0; clear hb1) | (go_at_call 20; refine (wrong_v (fun k => X k ∨ k = W.heap.size + 1 + 1) sArg V).mono ?_; rintro e w1 ⟨v, rfl, hT, hb1⟩; obtain ⟨A9, n9, c9, rfl, hn⟩ := hT.form; have HT := Lib.hid hT; have HKq1 := Lib.hid (HKq1.out.keep hb1); have HKq2 := Lib.hid (HKq2.out.keep hb1); have HKz := Lib.hid (HKz.out.keep hb1); have HKg := Lib.hid (HKg.out.keep hb1); have HB := Lib.hid (below_step HB.out hb1); have q10 := HKq1.out.cell 0; have q11 := HKq1.out.cell 1; have q12 := HKq1.out.cell 2; have q13 := HKq1.out.cell 3; have q1f0 := HKq1.out.frozen 0; have q1f1 := HKq1.out.frozen 1; have q1f2 := HKq1.out.frozen 2; have q1f3 := HKq1.out.frozen 3; have q20 := HKq2.out.cell 0; have q21 := HKq2.out.cell 1; have q22 := HKq2.out.cell 2; have q23 := HKq2.out.cell 3; have q2f0 := HKq2.out.frozen 0; have q2f1 := HKq2.out.frozen 1; have q2f2 := HKq2.out.frozen 2; have q2f3 := HKq2.out.frozen 3; have z0 := HKz.out.cell 0; have z1 := HKz.out.cell 1; have z2 := HKz.out.cell 2; have z3 := HKz.out.cell 3; have zf0 := HKz.out.frozen 0; have zf1 := HKz.out.frozen 1; have zf2 := HKz.out.frozen 2; have zf3 := HKz.out.frozen 3; have g0 := HKg.out.cell 0; have gf0 := HKg.out.frozen 0; clear hn hT hb1))
    have hB2 := HKz.out.set4 (.int .i64 (tZ).kind) (.int .i64 (tZ).int) (.string ⟨(tZ).name.toArray⟩) (.slice A9 n9 c9)
    have y0 := hB2.cell 0
    have y1 := hB2.cell 1
    have y2 := hB2.cell 2
    have y3 := hB2.cell 3
    refine bodyPost_ret (v := .tuple #[.agg #[.int .i64 (tZ).kind, .int .i64 (tZ).int, .string ⟨(tZ).name.toArray⟩, .slice A9 n9 c9], .string ⟨(sArg).toArray⟩]) (by simp [results, Tryz.results98, go_sem, y0, y1, y2, y3]) rfl ?_
    obtain ⟨g1, g2⟩ := fin4 (X := X) HB.out (by omega) HT.out
    exact ⟨_, rfl, g1, g2⟩
  | true =>
    cases y2 with
    | false =>
      rw [if_neg (fun h => by simp at h)]
      go_enter Tryz.func98, Tryz.ntmps98
      go_upto_region 1 with (fail)
      refine wp_world (fun V => Below W.heap.size W V ∧ Blk V (W.heap.size) 26 #[.int .i64 t1.kind, .int .i64 t1.int, .string ⟨t1.name.toArray⟩, .slice A1 n1 c1] ∧ Blk V (W.heap.size + 1) 26 #[.int .i64 t2.kind, .int .i64 t2.int, .string ⟨t2.name.toArray⟩, .slice A2 n2 c2] ∧ Blk V (W.heap.size + 1 + 1) 26 #[.int .i64 0, .int .i64 0, .string ⟨#[]⟩, .slice none 0 0] ∧ Blk V (g) 79 #[.func (.func fid) #[] caps]) ⟨below_step (below_step (below_alloc _ _) (below_alloc _ _)) (below_alloc _ _), (((Blk.newAt (by first | (with_reducible rfl) | simp)).alloc _).alloc _), ((Blk.newAt (by first | (with_reducible rfl) | simp)).alloc _), (Blk.newAt (by first | (with_reducible rfl) | simp)), (((HKg.out.alloc _).alloc _).alloc _)⟩ ?_
      rintro V ⟨hb, hq1, hq2, hz, hg⟩
      have HB := Lib.hid hb
      have HKq1 := Lib.hid hq1
      have HKq2 := Lib.hid hq2
      have HKz := Lib.hid hz
      have HKg := Lib.hid hg
      have q10 := HKq1.out.cell 0
      have q11 := HKq1.out.cell 1
      have q12 := HKq1.out.cell 2
      have q13 := HKq1.out.cell 3
      have q1f0 := HKq1.out.frozen 0
      have q1f1 := HKq1.out.frozen 1
      have q1f2 := HKq1.out.frozen 2
      have q1f3 := HKq1.out.frozen 3
      have q20 := HKq2.out.cell 0
      have q21 := HKq2.out.cell 1
      have q22 := HKq2.out.cell 2
      have q23 := HKq2.out.cell 3
      have q2f0 := HKq2.out.frozen 0
      have q2f1 := HKq2.out.frozen 1
      have q2f2 := HKq2.out.frozen 2
      have q2f3 := HKq2.out.frozen 3
      have z0 := HKz.out.cell 0
      have z1 := HKz.out.cell 1
      have z2 := HKz.out.cell 2
      have z3 := HKz.out.cell 3
      have zf0 := HKz.out.frozen 0
      have zf1 := HKz.out.frozen 1
      have zf2 := HKz.out.frozen 2
      have zf3 := HKz.out.frozen 3
      have g0 := HKg.out.cell 0
      have gf0 := HKg.out.frozen 0
      clear hb hq1 hq2 hz hg
      go_wp2_with (first | (go_at_call 36; with_reducible refine (HL1.out V HB.out).mono ?_; rintro e V ⟨rfl, hb1⟩; have HKq1 := Lib.hid (HKq1.out.keep hb1); have HKq2 := Lib.hid (HKq2.out.keep hb1); have HKz := Lib.hid (HKz.out.keep hb1); have HKg := Lib.hid (HKg.out.keep hb1); have HB := Lib.hid (below_step HB.out hb1); have q10 := HKq1.out.cell 0; have q11 := HKq1.out.cell 1; have q12 := HKq1.out.cell 2; have q13 := HKq1.out.cell 3; have q1f0 := HKq1.out.frozen 0; have q1f1 := HKq1.out.frozen 1; have q1f2 := HKq1.out.frozen 2; have q1f3 := HKq1.out.frozen 3; have q20 := HKq2.out.cell 0; have q21 := HKq2.out.cell 1; have q22 := HKq2.out.cell 2; have q23 := HKq2.out.cell 3; have q2f0 := HKq2.out.frozen 0; have q2f1 := HKq2.out.frozen 1; have q2f2 := HKq2.out.frozen 2; have q2f3 := HKq2.out.frozen 3; have z0 := HKz.out.cell 0; have z1 := HKz.out.cell 1; have z2 := HKz.out.cell 2; have z3 := HKz.out.cell 3; have zf0 := HKz.out.frozen 0; have zf1 := HKz.out.frozen 1; have zf2 := HKz.out.frozen 2; have zf3 := HKz.out.frozen 3; have g0 := HKg.out.cell 0; have gf0 := HKg.out.frozen 0; clear hb1) | (go_at_call 36; with_reducible refine (HL2.out V HB.out).mono ?_; rintro e V ⟨rfl, hb1⟩; have HKq1 := Lib.hid (HKq1.out.keep hb1); have HKq2 := Lib.hid (HKq2.out.keep hb1); have HKz := Lib.hid (HKz.out.keep hb1); have HKg := Lib.hid (HKg.out.keep hb1); have HB := Lib.hid (below_step HB.out hb1); have q10 := HKq1.out.cell 0; have q11 := HKq1.out.cell 1; have q12 := HKq1.out.cell 2; have q13 := HKq1.out.cell 3; have q1f0 := HKq1.out.frozen 0; have q1f1 := HKq1.out.frozen 1; have q1f2 := HKq1.out.frozen 2; have q1f3 := HKq1.out.frozen 3; have q20 := HKq2.out.cell 0; have q21 := HKq2.out.cell 1; have q22 := HKq2.out.cell 2; have q23 := HKq2.out.cell 3; have q2f0 := HKq2.out.frozen 0; have q2f1 := HKq2.out.frozen 1; have q2f2 := HKq2.out.frozen 2; have q2f3 := HKq2.out.frozen 3; have z0 := HKz.out.cell 0; have z1 := HKz.out.cell 1; have z2 := HKz.out.cell 2; have z3 := HKz.out.cell 3; have zf0 := HKz.out.frozen 0; have zf1 := HKz.out.frozen 1; have zf2 := HKz.out.frozen 2; have zf3 := HKz.out.frozen 3; have g0 := HKg.out.cell 0; have gf0 := HKg.out.frozen 0; clear hb1) | (go_at_call 20; refine (wrong_v (fun k => X k ∨ k = W.heap.size + 1 + 1) sArg V).mono ?_; rintro e w1 ⟨v, rfl, hT, hb1⟩; obtain ⟨A9, n9, c9, rfl, hn⟩ := hT.form; have HT := Lib.hid hT; have HKq1 := Lib.hid (HKq1.out.keep hb1); have HKq2 := Lib.hid (HKq2.out.keep hb1); have HKz := Lib.hid (HKz.out.keep hb1); have HKg := Lib.hid (HKg.out.keep hb1); have HB := Lib.hid (below_step HB.out hb1); have q10 := HKq1.out.cell 0; have q11 := HKq1.out.cell 1; have q12 := HKq1.out.cell 2; have q13 := HKq1.out.cell 3; have q1f0 := HKq1.out.frozen 0; have q1f1 := HKq1.out.frozen 1; have q1f2 := HKq1.out.frozen 2; have q1f3 := HKq1.out.frozen 3; have q20 := HKq2.out.cell 0; have q21 := HKq2.out.cell 1; have q22 := HKq2.out.cell 2; have q23 := HKq2.out.cell 3; have q2f0 := HKq2.out.frozen 0; have q2f1 := HKq2.out.frozen 1; have q2f2 := HKq2.out.frozen 2; have q2f3 := HKq2.out.frozen 3; have z0 := HKz.out.cell 0; have z1 := HKz.out.cell 1; have z2 := HKz.out.cell 2; have z3 := HKz.out.cell 3; have zf0 := HKz.out.frozen 0; have zf1 := HKz.out.frozen 1; have zf2 := HKz.out.frozen 2; have zf3 := HKz.out.frozen 3; have g0 := HKg.out.cell 0; have gf0 := HKg.out.frozen 0; clear hn hT hb1))
      have hB2 := HKz.out.set4 (.int .i64 (tZ).kind) (.int .i64 (tZ).int) (.string ⟨(tZ).name.toArray⟩) (.slice A9 n9 c9)
      have y0 := hB2.cell 0
      have y1 := hB2.cell 1
      have y2 := hB2.cell 2
      have y3 := hB2.cell 3
      refine bodyPost_ret (v := .tuple #[.agg #[.int .i64 (tZ).kind, .int .i64 (tZ).int, .string ⟨(tZ).name.toArray⟩, .slice A9 n9 c9], .string ⟨(sArg).toArray⟩]) (by simp [results, Tryz.results98, go_sem, y0, y1, y2, y3]) rfl ?_
      obtain ⟨g1, g2⟩ := fin4 (X := X) HB.out (by omega) HT.out
      exact ⟨_, rfl, g1, g2⟩
    | true =>
      rw [if_pos ⟨rfl, rfl⟩]
      go_enter Tryz.func98, Tryz.ntmps98
      go_upto_region 1 with (fail)
      refine wp_world (fun V => Below W.heap.size W V ∧ Blk V (W.heap.size) 26 #[.int .i64 t1.kind, .int .i64 t1.int, .string ⟨t1.name.toArray⟩, .slice A1 n1 c1] ∧ Blk V (W.heap.size + 1) 26 #[.int .i64 t2.kind, .int .i64 t2.int, .string ⟨t2.name.toArray⟩, .slice A2 n2 c2] ∧ Blk V (W.heap.size + 1 + 1) 26 #[.int .i64 0, .int .i64 0, .string ⟨#[]⟩, .slice none 0 0] ∧ Blk V (g) 79 #[.func (.func fid) #[] caps]) ⟨below_step (below_step (below_alloc _ _) (below_alloc _ _)) (below_alloc _ _), (((Blk.newAt (by first | (with_reducible rfl) | simp)).alloc _).alloc _), ((Blk.newAt (by first | (with_reducible rfl) | simp)).alloc _), (Blk.newAt (by first | (with_reducible rfl) | simp)), (((HKg.out.alloc _).alloc _).alloc _)⟩ ?_
      rintro V ⟨hb, hq1, hq2, hz, hg⟩
      have HB := Lib.hid hb
      have HKq1 := Lib.hid hq1
      have HKq2 := Lib.hid hq2
      have HKz := Lib.hid hz
      have HKg := Lib.hid hg
      have q10 := HKq1.out.cell 0
      have q11 := HKq1.out.cell 1
      have q12 := HKq1.out.cell 2
      have q13 := HKq1.out.cell 3
      have q1f0 := HKq1.out.frozen 0
      have q1f1 := HKq1.out.frozen 1
      have q1f2 := HKq1.out.frozen 2
      have q1f3 := HKq1.out.frozen 3
      have q20 := HKq2.out.cell 0
      have q21 := HKq2.out.cell 1
      have q22 := HKq2.out.cell 2
      have q23 := HKq2.out.cell 3
      have q2f0 := HKq2.out.frozen 0
      have q2f1 := HKq2.out.frozen 1
      have q2f2 := HKq2.out.frozen 2
      have q2f3 := HKq2.out.frozen 3
      have z0 := HKz.out.cell 0
      have z1 := HKz.out.cell 1
      have z2 := HKz.out.cell 2
      have z3 := HKz.out.cell 3
      have zf0 := HKz.out.frozen 0
      have zf1 := HKz.out.frozen 1
      have zf2 := HKz.out.frozen 2
      have zf3 := HKz.out.frozen 3
      have g0 := HKg.out.cell 0
      have gf0 := HKg.out.frozen 0
      clear hb hq1 hq2 hz hg
      go_wp2_with (first | (go_at_call 36; with_reducible refine (HL1.out V HB.out).mono ?_; rintro e V ⟨rfl, hb1⟩; have HKq1 := Lib.hid (HKq1.out.keep hb1); have HKq2 := Lib.hid (HKq2.out.keep hb1); have HKz := Lib.hid (HKz.out.keep hb1); have HKg := Lib.hid (HKg.out.keep hb1); have HB := Lib.hid (below_step HB.out hb1); have q10 := HKq1.out.cell 0; have q11 := HKq1.out.cell 1; have q12 := HKq1.out.cell 2; have q13 := HKq1.out.cell 3; have q1f0 := HKq1.out.frozen 0; have q1f1 := HKq1.out.frozen 1; have q1f2 := HKq1.out.frozen 2; have q1f3 := HKq1.out.frozen 3; have q20 := HKq2.out.cell 0; have q21 := HKq2.out.cell 1; have q22 := HKq2.out.cell 2; have q23 := HKq2.out.cell 3; have q2f0 := HKq2.out.frozen 0; have q2f1 := HKq2.out.frozen 1; have q2f2 := HKq2.out.frozen 2; have q2f3 := HKq2.out.frozen 3; have z0 := HKz.out.cell 0; have z1 := HKz.out.cell 1; have z2 := HKz.out.cell 2; have z3 := HKz.out.cell 3; have zf0 := HKz.out.frozen 0; have zf1 := HKz.out.frozen 1; have zf2 := HKz.out.frozen 2; have zf3 := HKz.out.frozen 3; have g0 := HKg.out.cell 0; have gf0 := HKg.out.frozen 0; clear hb1) | (go_at_call 36; with_reducible refine (HL2.out V HB.out).mono ?_; rintro e V ⟨rfl, hb1⟩; have HKq1 := Lib.hid (HKq1.out.keep hb1); have HKq2 := Lib.hid (HKq2.out.keep hb1); have HKz := Lib.hid (HKz.out.keep hb1); have HKg := Lib.hid (HKg.out.keep hb1); have HB := Lib.hid (below_step HB.out hb1); have q10 := HKq1.out.cell 0; have q11 := HKq1.out.cell 1; have q12 := HKq1.out.cell 2; have q13 := HKq1.out.cell 3; have q1f0 := HKq1.out.frozen 0; have q1f1 := HKq1.out.frozen 1; have q1f2 := HKq1.out.frozen 2; have q1f3 := HKq1.out.frozen 3; have q20 := HKq2.out.cell 0; have q21 := HKq2.out.cell 1; have q22 := HKq2.out.cell 2; have q23 := HKq2.out.cell 3; have q2f0 := HKq2.out.frozen 0; have q2f1 := HKq2.out.frozen 1; have q2f2 := HKq2.out.frozen 2; have q2f3 := HKq2.out.frozen 3; have z0 := HKz.out.cell 0; have z1 := HKz.out.cell 1; have z2 := HKz.out.cell 2; have z3 := HKz.out.cell 3; have zf0 := HKz.out.frozen 0; have zf1 := HKz.out.frozen 1; have zf2 := HKz.out.frozen 2; have zf3 := HKz.out.frozen 3; have g0 := HKg.out.cell 0; have gf0 := HKg.out.frozen 0; clear hb1) | (refine (HF.out V HB.out).mono ?_; rintro e V ⟨rfl, hb1⟩; have HKq1 := Lib.hid (HKq1.out.keep hb1); have HKq2 := Lib.hid (HKq2.out.keep hb1); have HKz := Lib.hid (HKz.out.keep hb1); have HKg := Lib.hid (HKg.out.keep hb1); have HB := Lib.hid (below_step HB.out hb1); have q10 := HKq1.out.cell 0; have q11 := HKq1.out.cell 1; have q12 := HKq1.out.cell 2; have q13 := HKq1.out.cell 3; have q1f0 := HKq1.out.frozen 0; have q1f1 := HKq1.out.frozen 1; have q1f2 := HKq1.out.frozen 2; have q1f3 := HKq1.out.frozen 3; have q20 := HKq2.out.cell 0; have q21 := HKq2.out.cell 1; have q22 := HKq2.out.cell 2; have q23 := HKq2.out.cell 3; have q2f0 := HKq2.out.frozen 0; have q2f1 := HKq2.out.frozen 1; have q2f2 := HKq2.out.frozen 2; have q2f3 := HKq2.out.frozen 3; have z0 := HKz.out.cell 0; have z1 := HKz.out.cell 1; have z2 := HKz.out.cell 2; have z3 := HKz.out.cell 3; have zf0 := HKz.out.frozen 0; have zf1 := HKz.out.frozen 1; have zf2 := HKz.out.frozen 2; have zf3 := HKz.out.frozen 3; have g0 := HKg.out.cell 0; have gf0 := HKg.out.frozen 0; clear hb1) | (go_at_call 37; refine (truth_v (X := (fun k => X k ∨ k = W.heap.size + 1 + 1)) (W := V) (by rintro k (hk | rfl); exact Nat.lt_of_lt_of_le (HX.out k hk) HB.out.size; exact HKz.out.lt) b).mono ?_; rintro e w1 ⟨v, rfl, hT, hb1⟩; obtain ⟨A9, n9, c9, rfl, hn⟩ := hT.form; have HT := Lib.hid hT; have HKq1 := Lib.hid (HKq1.out.keep hb1); have HKq2 := Lib.hid (HKq2.out.keep hb1); have HKz := Lib.hid (HKz.out.keep hb1); have HKg := Lib.hid (HKg.out.keep hb1); have HB := Lib.hid (below_step HB.out hb1); have q10 := HKq1.out.cell 0; have q11 := HKq1.out.cell 1; have q12 := HKq1.out.cell 2; have q13 := HKq1.out.cell 3; have q1f0 := HKq1.out.frozen 0; have q1f1 := HKq1.out.frozen 1; have q1f2 := HKq1.out.frozen 2; have q1f3 := HKq1.out.frozen 3; have q20 := HKq2.out.cell 0; have q21 := HKq2.out.cell 1; have q22 := HKq2.out.cell 2; have q23 := HKq2.out.cell 3; have q2f0 := HKq2.out.frozen 0; have q2f1 := HKq2.out.frozen 1; have q2f2 := HKq2.out.frozen 2; have q2f3 := HKq2.out.frozen 3; have z0 := HKz.out.cell 0; have z1 := HKz.out.cell 1; have z2 := HKz.out.cell 2; have z3 := HKz.out.cell 3; have zf0 := HKz.out.frozen 0; have zf1 := HKz.out.frozen 1; have zf2 := HKz.out.frozen 2; have zf3 := HKz.out.frozen 3; have g0 := HKg.out.cell 0; have gf0 := HKg.out.frozen 0; clear hn hT hb1))
      have hB2 := HKz.out.set4 (.int .i64 ((truT b)).kind) (.int .i64 ((truT b)).int) (.string ⟨((truT b)).name.toArray⟩) (.slice A9 n9 c9)
      have y0 := hB2.cell 0
      have y1 := hB2.cell 1
      have y2 := hB2.cell 2
      have y3 := hB2.cell 3
      refine bodyPost_ret (v := .tuple #[.agg #[.int .i64 ((truT b)).kind, .int .i64 ((truT b)).int, .string ⟨((truT b)).name.toArray⟩, .slice A9 n9 c9], .string ⟨(([] : List UInt8)).toArray⟩]) (by simp [results, Tryz.results98, go_sem, y0, y1, y2, y3]) rfl ?_
      obtain ⟨g1, g2⟩ := fin4 (X := X) HB.out (by omega) HT.out
      exact ⟨_, rfl, g1, g2⟩
set_option maxRecDepth 100000 in
set_option maxHeartbeats 1000000 in
theorem kind1_v {X : Nat → Prop} (hX : ∀ k, X k → k < W.heap.size) (h1 : TEx X W u1 t1) (b : Bool) {g m c : Nat} {A : Option Addr} (hg : Blk W g 89 #[.slice A m c]) (hf : ∀ V, Below W.heap.size W V → Calls Tryz.prog 87 #[.slice A m c, .int .i64 t1.kind] V fun e w' => e = .returned (.bool b) ∧ Below V.heap.size V w') :
    Calls Tryz.prog 86 #[u1, .pointer (some ⟨g, 0, none⟩)] W (R2 X W (truT b, [])) := by
  obtain ⟨A1, n1, c1, rfl, hn1⟩ := h1.form
  have H1 := Lib.hid h1
  have HN1 := Lib.hid hn1
  have HX := Lib.hid hX
  clear h1 hn1 hX
  have HKg := Lib.hid hg
  have HF := Lib.hid hf
  clear hg hf
  go_enter Tryz.func86, Tryz.ntmps86
  go_upto_region 1 with (fail)
  refine wp_world (fun V => Below W.heap.size W V ∧ Blk V (W.heap.size) 26 #[.int .i64 t1.kind, .int .i64 t1.int, .string ⟨t1.name.toArray⟩, .slice A1 n1 c1] ∧ Blk V (W.heap.size + 1) 26 #[.int .i64 0, .int .i64 0, .string ⟨#[]⟩, .slice none 0 0] ∧ Blk V (g) 89 #[.slice A m c]) ⟨below_step (below_alloc _ _) (below_alloc _ _), ((Blk.newAt (by first | (with_reducible rfl) | simp)).alloc _), (Blk.newAt (by first | (with_reducible rfl) | simp)), ((HKg.out.alloc _).alloc _)⟩ ?_
  rintro V ⟨hb, hq1, hz, hg⟩
  have HB := Lib.hid hb
  have HKq1 := Lib.hid hq1
  have HKz := Lib.hid hz
  have HKg := Lib.hid hg
  have q10 := HKq1.out.cell 0
  have q11 := HKq1.out.cell 1
  have q12 := HKq1.out.cell 2
  have q13 := HKq1.out.cell 3
  have q1f0 := HKq1.out.frozen 0
  have q1f1 := HKq1.out.frozen 1
  have q1f2 := HKq1.out.frozen 2
  have q1f3 := HKq1.out.frozen 3
  have z0 := HKz.out.cell 0
  have z1 := HKz.out.cell 1
  have z2 := HKz.out.cell 2
  have z3 := HKz.out.cell 3
  have zf0 := HKz.out.frozen 0
  have zf1 := HKz.out.frozen 1
  have zf2 := HKz.out.frozen 2
  have zf3 := HKz.out.frozen 3
  have g0 := HKg.out.cell 0
  have gf0 := HKg.out.frozen 0
  clear hb hq1 hz hg
  go_wp2_with (first | (go_at_call 87; refine (HF.out V HB.out).mono ?_; rintro e V ⟨rfl, hb1⟩; have HKq1 := Lib.hid (HKq1.out.keep hb1); have HKz := Lib.hid (HKz.out.keep hb1); have HKg := Lib.hid (HKg.out.keep hb1); have HB := Lib.hid (below_step HB.out hb1); have q10 := HKq1.out.cell 0; have q11 := HKq1.out.cell 1; have q12 := HKq1.out.cell 2; have q13 := HKq1.out.cell 3; have q1f0 := HKq1.out.frozen 0; have q1f1 := HKq1.out.frozen 1; have q1f2 := HKq1.out.frozen 2; have q1f3 := HKq1.out.frozen 3; have z0 := HKz.out.cell 0; have z1 := HKz.out.cell 1; have z2 := HKz.out.cell 2; have z3 := HKz.out.cell 3; have zf0 := HKz.out.frozen 0; have zf1 := HKz.out.frozen 1; have zf2 := HKz.out.frozen 2; have zf3 := HKz.out.frozen 3; have g0 := HKg.out.cell 0; have gf0 := HKg.out.frozen 0; clear hb1) | (go_at_call 37; refine (truth_v (X := (fun k => X k ∨ k = W.heap.size + 1)) (W := V) (by rintro k (hk | rfl); exact Nat.lt_of_lt_of_le (HX.out k hk) HB.out.size; exact HKz.out.lt) b).mono ?_; rintro e w1 ⟨v, rfl, hT, hb1⟩; obtain ⟨A9, n9, c9, rfl, hn⟩ := hT.form; have HT := Lib.hid hT; have HKq1 := Lib.hid (HKq1.out.keep hb1); have HKz := Lib.hid (HKz.out.keep hb1); have HKg := Lib.hid (HKg.out.keep hb1); have HB := Lib.hid (below_step HB.out hb1); have q10 := HKq1.out.cell 0; have q11 := HKq1.out.cell 1; have q12 := HKq1.out.cell 2; have q13 := HKq1.out.cell 3; have q1f0 := HKq1.out.frozen 0; have q1f1 := HKq1.out.frozen 1; have q1f2 := HKq1.out.frozen 2; have q1f3 := HKq1.out.frozen 3; have z0 := HKz.out.cell 0; have z1 := HKz.out.cell 1; have z2 := HKz.out.cell 2; have z3 := HKz.out.cell 3; have zf0 := HKz.out.frozen 0; have zf1 := HKz.out.frozen 1; have zf2 := HKz.out.frozen 2; have zf3 := HKz.out.frozen 3; have g0 := HKg.out.cell 0; have gf0 := HKg.out.frozen 0; clear hn hT hb1))
  have hB2 := HKz.out.set4 (.int .i64 ((truT b)).kind) (.int .i64 ((truT b)).int) (.string ⟨((truT b)).name.toArray⟩) (.slice A9 n9 c9)
  have y0 := hB2.cell 0
  have y1 := hB2.cell 1
  have y2 := hB2.cell 2
  have y3 := hB2.cell 3
  refine bodyPost_ret (v := .tuple #[.agg #[.int .i64 ((truT b)).kind, .int .i64 ((truT b)).int, .string ⟨((truT b)).name.toArray⟩, .slice A9 n9 c9], .string ⟨(([] : List UInt8)).toArray⟩]) (by simp [results, Tryz.results86, go_sem, y0, y1, y2, y3]) rfl ?_
  obtain ⟨g1, g2⟩ := fin4 (X := X) HB.out (by omega) HT.out
  exact ⟨_, rfl, g1, g2⟩
set_option maxRecDepth 100000 in
set_option maxHeartbeats 1000000 in
theorem of1_v {X : Nat → Prop} (hX : ∀ k, X k → k < W.heap.size) (h1 : TEx X W u1 t1) (k : Int) {fid : Nat} {caps : Array Value} {gk g : Nat} (eg : ∀ args w, (callFunc fid args).run Tryz.prog w = .ok (.enter fid args) w) (hgk : Blk W gk 3 #[.int .i64 k]) (hg : Blk W g 42 #[.func (.func fid) #[] caps]) {f : TV × List UInt8} (hf : t1.kind = k → ∀ V X', Below W.heap.size W V → (∀ k, X' k → k < V.heap.size) → TEx X' V u1 t1 → Calls Tryz.prog fid (#[u1] ++ caps) V (R2 X' V f)) :
    Calls Tryz.prog 88 #[u1, .pointer (some ⟨gk, 0, none⟩), .pointer (some ⟨g, 0, none⟩)] W (R2 X W (if t1.kind = k then f else (tZ, sArg))) := by
  obtain ⟨A1, n1, c1, rfl, hn1⟩ := h1.form
  have H1 := Lib.hid h1
  have HN1 := Lib.hid hn1
  have HX := Lib.hid hX
  clear h1 hn1 hX
  have HKk := Lib.hid hgk
  have HKg := Lib.hid hg
  have HF := Lib.hid hf
  clear hgk hg hf
  by_cases k1 : t1.kind = k
  · rw [if_pos k1]
    replace HF := Lib.hid (HF.out k1)
    subst k1
    go_enter Tryz.func88, Tryz.ntmps88
    go_upto_region 1 with (fail)
    refine wp_world (fun V => Below W.heap.size W V ∧ Blk V (W.heap.size) 26 #[.int .i64 t1.kind, .int .i64 t1.int, .string ⟨t1.name.toArray⟩, .slice A1 n1 c1] ∧ Blk V (W.heap.size + 1) 26 #[.int .i64 0, .int .i64 0, .string ⟨#[]⟩, .slice none 0 0] ∧ Blk V (gk) 3 #[.int .i64 t1.kind] ∧ Blk V (g) 42 #[.func (.func fid) #[] caps]) ⟨below_step (below_alloc _ _) (below_alloc _ _), ((Blk.newAt (by first | (with_reducible rfl) | simp)).alloc _), (Blk.newAt (by first | (with_reducible rfl) | simp)), ((HKk.out.alloc _).alloc _), ((HKg.out.alloc _).alloc _)⟩ ?_
    rintro V ⟨hb, hq1, hz, hk, hg⟩
    have HB := Lib.hid hb
    have HKq1 := Lib.hid hq1
    have HKz := Lib.hid hz
    have HKk := Lib.hid hk
    have HKg := Lib.hid hg
    have q10 := HKq1.out.cell 0
    have q11 := HKq1.out.cell 1
    have q12 := HKq1.out.cell 2
    have q13 := HKq1.out.cell 3
    have q1f0 := HKq1.out.frozen 0
    have q1f1 := HKq1.out.frozen 1
    have q1f2 := HKq1.out.frozen 2
    have q1f3 := HKq1.out.frozen 3
    have z0 := HKz.out.cell 0
    have z1 := HKz.out.cell 1
    have z2 := HKz.out.cell 2
    have z3 := HKz.out.cell 3
    have zf0 := HKz.out.frozen 0
    have zf1 := HKz.out.frozen 1
    have zf2 := HKz.out.frozen 2
    have zf3 := HKz.out.frozen 3
    have k0 := HKk.out.cell 0
    have kf0 := HKk.out.frozen 0
    have g0 := HKg.out.cell 0
    have gf0 := HKg.out.frozen 0
    clear hb hq1 hz hk hg
    go_wp2_with (refine (HF.out V (fun k => X k ∨ k = W.heap.size + 1) HB.out (by rintro k (hk | rfl); exact Nat.lt_of_lt_of_le (HX.out k hk) HB.out.size; exact HKz.out.lt) (H1.out.up HB.out (by omega))).mono ?_; rintro e w1 ⟨v, rfl, hT, hb1⟩; obtain ⟨A9, n9, c9, rfl, hn⟩ := hT.form; have HT := Lib.hid hT; have HKq1 := Lib.hid (HKq1.out.keep hb1); have HKz := Lib.hid (HKz.out.keep hb1); have HKk := Lib.hid (HKk.out.keep hb1); have HKg := Lib.hid (HKg.out.keep hb1); have HB := Lib.hid (below_step HB.out hb1); have q10 := HKq1.out.cell 0; have q11 := HKq1.out.cell 1; have q12 := HKq1.out.cell 2; have q13 := HKq1.out.cell 3; have q1f0 := HKq1.out.frozen 0; have q1f1 := HKq1.out.frozen 1; have q1f2 := HKq1.out.frozen 2; have q1f3 := HKq1.out.frozen 3; have z0 := HKz.out.cell 0; have z1 := HKz.out.cell 1; have z2 := HKz.out.cell 2; have z3 := HKz.out.cell 3; have zf0 := HKz.out.frozen 0; have zf1 := HKz.out.frozen 1; have zf2 := HKz.out.frozen 2; have zf3 := HKz.out.frozen 3; have k0 := HKk.out.cell 0; have kf0 := HKk.out.frozen 0; have g0 := HKg.out.cell 0; have gf0 := HKg.out.frozen 0; clear hn hT hb1)
    have hB2 := HKz.out.set4 (.int .i64 (f.1).kind) (.int .i64 (f.1).int) (.string ⟨(f.1).name.toArray⟩) (.slice A9 n9 c9)
    have y0 := hB2.cell 0
    have y1 := hB2.cell 1
    have y2 := hB2.cell 2
    have y3 := hB2.cell 3
    refine bodyPost_ret (v := .tuple #[.agg #[.int .i64 (f.1).kind, .int .i64 (f.1).int, .string ⟨(f.1).name.toArray⟩, .slice A9 n9 c9], .string ⟨(f.2).toArray⟩]) (by simp [results, Tryz.results88, go_sem, y0, y1, y2, y3]) rfl ?_
    obtain ⟨g1, g2⟩ := fin4 (X := X) HB.out (by omega) HT.out
    exact ⟨_, rfl, g1, g2⟩
  · rw [if_neg k1]
    have Ik1 := Lib.hid k1
    clear k1
    go_enter Tryz.func88, Tryz.ntmps88
    go_upto_region 1 with (fail)
    refine wp_world (fun V => Below W.heap.size W V ∧ Blk V (W.heap.size) 26 #[.int .i64 t1.kind, .int .i64 t1.int, .string ⟨t1.name.toArray⟩, .slice A1 n1 c1] ∧ Blk V (W.heap.size + 1) 26 #[.int .i64 0, .int .i64 0, .string ⟨#[]⟩, .slice none 0 0] ∧ Blk V (gk) 3 #[.int .i64 k] ∧ Blk V (g) 42 #[.func (.func fid) #[] caps]) ⟨below_step (below_alloc _ _) (below_alloc _ _), ((Blk.newAt (by first | (with_reducible rfl) | simp)).alloc _), (Blk.newAt (by first | (with_reducible rfl) | simp)), ((HKk.out.alloc _).alloc _), ((HKg.out.alloc _).alloc _)⟩ ?_
    rintro V ⟨hb, hq1, hz, hk, hg⟩
    have HB := Lib.hid hb
    have HKq1 := Lib.hid hq1
    have HKz := Lib.hid hz
    have HKk := Lib.hid hk
    have HKg := Lib.hid hg
    have q10 := HKq1.out.cell 0
    have q11 := HKq1.out.cell 1
    have q12 := HKq1.out.cell 2
    have q13 := HKq1.out.cell 3
    have q1f0 := HKq1.out.frozen 0
    have q1f1 := HKq1.out.frozen 1
    have q1f2 := HKq1.out.frozen 2
    have q1f3 := HKq1.out.frozen 3
    have z0 := HKz.out.cell 0
    have z1 := HKz.out.cell 1
    have z2 := HKz.out.cell 2
    have z3 := HKz.out.cell 3
    have zf0 := HKz.out.frozen 0
    have zf1 := HKz.out.frozen 1
    have zf2 := HKz.out.frozen 2
    have zf3 := HKz.out.frozen 3
    have k0 := HKk.out.cell 0
    have kf0 := HKk.out.frozen 0
    have g0 := HKg.out.cell 0
    have gf0 := HKg.out.frozen 0
    clear hb hq1 hz hk hg
    have k1 := Ik1.out
    go_wp2_with (go_at_call 20; refine (wrong_v (fun k => X k ∨ k = W.heap.size + 1) sArg V).mono ?_; rintro e w1 ⟨v, rfl, hT, hb1⟩; obtain ⟨A9, n9, c9, rfl, hn⟩ := hT.form; have HT := Lib.hid hT; have HKq1 := Lib.hid (HKq1.out.keep hb1); have HKz := Lib.hid (HKz.out.keep hb1); have HKk := Lib.hid (HKk.out.keep hb1); have HKg := Lib.hid (HKg.out.keep hb1); have HB := Lib.hid (below_step HB.out hb1); have q10 := HKq1.out.cell 0; have q11 := HKq1.out.cell 1; have q12 := HKq1.out.cell 2; have q13 := HKq1.out.cell 3; have q1f0 := HKq1.out.frozen 0; have q1f1 := HKq1.out.frozen 1; have q1f2 := HKq1.out.frozen 2; have q1f3 := HKq1.out.frozen 3; have z0 := HKz.out.cell 0; have z1 := HKz.out.cell 1; have z2 := HKz.out.cell 2; have z3 := HKz.out.cell 3; have zf0 := HKz.out.frozen 0; have zf1 := HKz.out.frozen 1; have zf2 := HKz.out.frozen 2; have zf3 := HKz.out.frozen 3; have k0 := HKk.out.cell 0; have kf0 := HKk.out.frozen 0; have g0 := HKg.out.cell 0; have gf0 := HKg.out.frozen 0; clear hn hT hb1)
    have hB2 := HKz.out.set4 (.int .i64 (tZ).kind) (.int .i64 (tZ).int) (.string ⟨(tZ).name.toArray⟩) (.slice A9 n9 c9)
    have y0 := hB2.cell 0
    have y1 := hB2.cell 1
    have y2 := hB2.cell 2
    have y3 := hB2.cell 3
    refine bodyPost_ret (v := .tuple #[.agg #[.int .i64 (tZ).kind, .int .i64 (tZ).int, .string ⟨(tZ).name.toArray⟩, .slice A9 n9 c9], .string ⟨(sArg).toArray⟩]) (by simp [results, Tryz.results88, go_sem, y0, y1, y2, y3]) rfl ?_
    obtain ⟨g1, g2⟩ := fin4 (X := X) HB.out (by omega) HT.out
    exact ⟨_, rfl, g1, g2⟩
end
end Go.Proofs.YtbpnlpjbjmojfaaGreat
