/- Arith (layer 14): the functions of the tables that need no list. Written by argenf.py. -/
import Derived.Test.YtbpnlpjbjmojfaaGreatArE
namespace Go.Proofs.YtbpnlpjbjmojfaaGreat
open Go.RowKit
set_option linter.unusedVariables false
section
variable {W V V' : World} {u u1 u2 : Value} {t t1 t2 : TV}

set_option maxRecDepth 100000 in
set_option maxHeartbeats 1000000 in
theorem twos5_v (c : Int) (W : World) : Calls Tryz.prog 59 #[.int .i64 c] W fun e w' => e = .returned (.bool (c == 0)) ∧ Below W.heap.size W w' := by
  go_enter Tryz.func59, Tryz.ntmps59
  go_wp2
  exact bodyPost_ret (v := .bool (c == 0)) (by simp [results, Tryz.results59, go_sem]) rfl ⟨rfl, Below.refl _ _⟩
set_option maxRecDepth 100000 in
set_option maxHeartbeats 1000000 in
theorem twos6_v (c : Int) (W : World) : Calls Tryz.prog 60 #[.int .i64 c] W fun e w' => e = .returned (.bool (c != 0)) ∧ Below W.heap.size W w' := by
  go_enter Tryz.func60, Tryz.ntmps60
  go_wp2
  exact bodyPost_ret (v := .bool (c != 0)) (by simp [results, Tryz.results60, go_sem]) rfl ⟨rfl, Below.refl _ _⟩
set_option maxRecDepth 100000 in
set_option maxHeartbeats 1000000 in
theorem twos7_v (c : Int) (W : World) : Calls Tryz.prog 61 #[.int .i64 c] W fun e w' => e = .returned (.bool (decide (c < 0))) ∧ Below W.heap.size W w' := by
  go_enter Tryz.func61, Tryz.ntmps61
  go_wp2
  exact bodyPost_ret (v := .bool (decide (c < 0))) (by simp [results, Tryz.results61, go_sem]) rfl ⟨rfl, Below.refl _ _⟩
set_option maxRecDepth 100000 in
set_option maxHeartbeats 1000000 in
theorem twos8_v (c : Int) (W : World) : Calls Tryz.prog 62 #[.int .i64 c] W fun e w' => e = .returned (.bool (decide (0 < c))) ∧ Below W.heap.size W w' := by
  go_enter Tryz.func62, Tryz.ntmps62
  go_wp2
  exact bodyPost_ret (v := .bool (decide (0 < c))) (by simp [results, Tryz.results62, go_sem]) rfl ⟨rfl, Below.refl _ _⟩
set_option maxRecDepth 100000 in
set_option maxHeartbeats 1000000 in
theorem twos9_v (c : Int) (W : World) : Calls Tryz.prog 63 #[.int .i64 c] W fun e w' => e = .returned (.bool (decide (c ≤ 0))) ∧ Below W.heap.size W w' := by
  go_enter Tryz.func63, Tryz.ntmps63
  go_wp2
  exact bodyPost_ret (v := .bool (decide (c ≤ 0))) (by simp [results, Tryz.results63, go_sem]) rfl ⟨rfl, Below.refl _ _⟩
set_option maxRecDepth 100000 in
set_option maxHeartbeats 1000000 in
theorem twos10_v (c : Int) (W : World) : Calls Tryz.prog 64 #[.int .i64 c] W fun e w' => e = .returned (.bool (decide (0 ≤ c))) ∧ Below W.heap.size W w' := by
  go_enter Tryz.func64, Tryz.ntmps64
  go_wp2
  exact bodyPost_ret (v := .bool (decide (0 ≤ c))) (by simp [results, Tryz.results64, go_sem]) rfl ⟨rfl, Below.refl _ _⟩
set_option maxRecDepth 100000 in
set_option maxHeartbeats 1000000 in
theorem twos11_v (a b : Bool) (W : World) : Calls Tryz.prog 66 #[.bool a, .bool b] W fun e w' => e = .returned (.bool (a && b)) ∧ Below W.heap.size W w' := by
  cases a <;> cases b
  all_goals
    go_enter Tryz.func66, Tryz.ntmps66
    go_wp2
    first
      | exact bodyPost_ret (v := .bool true) (by simp [results, Tryz.results66, go_sem]) rfl ⟨rfl, Below.refl _ _⟩
      | exact bodyPost_ret (v := .bool false) (by simp [results, Tryz.results66, go_sem]) rfl ⟨rfl, Below.refl _ _⟩
set_option maxRecDepth 100000 in
set_option maxHeartbeats 1000000 in
theorem twos12_v (a b : Bool) (W : World) : Calls Tryz.prog 67 #[.bool a, .bool b] W fun e w' => e = .returned (.bool (a || b)) ∧ Below W.heap.size W w' := by
  cases a <;> cases b
  all_goals
    go_enter Tryz.func67, Tryz.ntmps67
    go_wp2
    first
      | exact bodyPost_ret (v := .bool true) (by simp [results, Tryz.results67, go_sem]) rfl ⟨rfl, Below.refl _ _⟩
      | exact bodyPost_ret (v := .bool false) (by simp [results, Tryz.results67, go_sem]) rfl ⟨rfl, Below.refl _ _⟩
theorem wrap_quo {a b : Int} (hb : ¬ b = 0) (ha : -1152921504606846976 ≤ a ∧ a ≤ 1152921504606846976) : wrap64 (a.tdiv b) = a.tdiv b := by
  have h1 : (a.tdiv b).natAbs = a.natAbs / b.natAbs := Int.natAbs_tdiv a b
  have h2 := Nat.div_le_self a.natAbs b.natAbs
  generalize a.tdiv b = m at *
  generalize a.natAbs / b.natAbs = k at *
  unfold wrap64
  omega
set_option maxRecDepth 100000 in
set_option maxHeartbeats 1000000 in
theorem twos3_v (a b : Int) (hb : ¬ b = 0) (ha : -1152921504606846976 ≤ a ∧ a ≤ 1152921504606846976) (W : World) : Calls Tryz.prog 56 #[.int .i64 a, .int .i64 b] W fun e w' => e = .returned (.int .i64 (a.tdiv b)) ∧ Below W.heap.size W w' := by
  have hw := wrap_quo hb ha
  clear ha
  go_enter Tryz.func56, Tryz.ntmps56
  go_wp2
  exact bodyPost_ret (v := .int .i64 (a.tdiv b)) (by simp [results, Tryz.results56, go_sem, hw]) rfl ⟨rfl, Below.refl _ _⟩
set_option maxRecDepth 100000 in
set_option maxHeartbeats 1000000 in
theorem twos4_v (a b : Int) (hb : ¬ b = 0) (ha : -1152921504606846976 ≤ a ∧ a ≤ 1152921504606846976) (W : World) : Calls Tryz.prog 57 #[.int .i64 a, .int .i64 b] W fun e w' => e = .returned (.int .i64 (a.tmod b)) ∧ Below W.heap.size W w' := by
  clear ha
  go_enter Tryz.func57, Tryz.ntmps57
  go_wp2
  exact bodyPost_ret (v := .int .i64 (a.tmod b)) (by simp [results, Tryz.results57, go_sem]) rfl ⟨rfl, Below.refl _ _⟩
set_option maxRecDepth 100000 in
set_option maxHeartbeats 1000000 in
theorem twos1_v {X : Nat → Prop} (hX : ∀ k, X k → k < W.heap.size) (a b : Int) (ha : -1152921504606846976 ≤ a ∧ a ≤ 1152921504606846976) (hb : -1152921504606846976 ≤ b ∧ b ≤ 1152921504606846976) : Calls Tryz.prog 52 #[.int .i64 a, .int .i64 b] W (R2 X W (numP (a + b))) := by
  have hw : wrap64 (a + b) = a + b := by unfold wrap64; omega
  have HX := Lib.hid hX
  clear hX ha hb
  have Hw := Lib.hid hw
  clear hw
  go_enter Tryz.func52, Tryz.ntmps52
  go_upto_region 1 with (fail)
  refine wp_world (fun V => Below W.heap.size W V ∧ Blk V (W.heap.size) 26 #[.int .i64 0, .int .i64 0, .string ⟨#[]⟩, .slice none 0 0]) ⟨below_alloc _ _, (Blk.newAt (by first | (with_reducible rfl) | simp))⟩ ?_
  rintro V ⟨hb, hz⟩
  have HB := Lib.hid hb
  have HKz := Lib.hid hz
  have z0 := HKz.out.cell 0
  have z1 := HKz.out.cell 1
  have z2 := HKz.out.cell 2
  have z3 := HKz.out.cell 3
  have zf0 := HKz.out.frozen 0
  have zf1 := HKz.out.frozen 1
  have zf2 := HKz.out.frozen 2
  have zf3 := HKz.out.frozen 3
  clear hb hz
  have hw := Hw.out
  go_wp2_with (go_at_call 34; refine (number_v (X := (fun k => X k ∨ k = W.heap.size)) (W := V) (by rintro k (hk | rfl); exact Nat.lt_of_lt_of_le (HX.out k hk) HB.out.size; exact HKz.out.lt) (a + b)).mono ?_; rintro e w1 ⟨v, rfl, hT, hb1⟩; obtain ⟨A9, n9, c9, rfl, hn⟩ := hT.form; have HT := Lib.hid hT; have HKz := Lib.hid (HKz.out.keep hb1); have HB := Lib.hid (below_step HB.out hb1); have z0 := HKz.out.cell 0; have z1 := HKz.out.cell 1; have z2 := HKz.out.cell 2; have z3 := HKz.out.cell 3; have zf0 := HKz.out.frozen 0; have zf1 := HKz.out.frozen 1; have zf2 := HKz.out.frozen 2; have zf3 := HKz.out.frozen 3; clear hn hT hb1)
  have hB2 := HKz.out.set4 (.int .i64 ((numP (a + b)).1).kind) (.int .i64 ((numP (a + b)).1).int) (.string ⟨((numP (a + b)).1).name.toArray⟩) (.slice A9 n9 c9)
  have y0 := hB2.cell 0
  have y1 := hB2.cell 1
  have y2 := hB2.cell 2
  have y3 := hB2.cell 3
  refine bodyPost_ret (v := .tuple #[.agg #[.int .i64 ((numP (a + b)).1).kind, .int .i64 ((numP (a + b)).1).int, .string ⟨((numP (a + b)).1).name.toArray⟩, .slice A9 n9 c9], .string ⟨((numP (a + b)).2).toArray⟩]) (by simp [results, Tryz.results52, go_sem, y0, y1, y2, y3]) rfl ?_
  obtain ⟨g1, g2⟩ := fin4 (X := X) HB.out (by omega) HT.out
  exact ⟨_, rfl, g1, g2⟩
set_option maxRecDepth 100000 in
set_option maxHeartbeats 1000000 in
theorem twos2_v {X : Nat → Prop} (hX : ∀ k, X k → k < W.heap.size) (a b : Int) (ha : -1152921504606846976 ≤ a ∧ a ≤ 1152921504606846976) (hb : -1152921504606846976 ≤ b ∧ b ≤ 1152921504606846976) : Calls Tryz.prog 53 #[.int .i64 a, .int .i64 b] W (R2 X W (numP (a - b))) := by
  have hw : wrap64 (a - b) = a - b := by unfold wrap64; omega
  have HX := Lib.hid hX
  clear hX ha hb
  have Hw := Lib.hid hw
  clear hw
  go_enter Tryz.func53, Tryz.ntmps53
  go_upto_region 1 with (fail)
  refine wp_world (fun V => Below W.heap.size W V ∧ Blk V (W.heap.size) 26 #[.int .i64 0, .int .i64 0, .string ⟨#[]⟩, .slice none 0 0]) ⟨below_alloc _ _, (Blk.newAt (by first | (with_reducible rfl) | simp))⟩ ?_
  rintro V ⟨hb, hz⟩
  have HB := Lib.hid hb
  have HKz := Lib.hid hz
  have z0 := HKz.out.cell 0
  have z1 := HKz.out.cell 1
  have z2 := HKz.out.cell 2
  have z3 := HKz.out.cell 3
  have zf0 := HKz.out.frozen 0
  have zf1 := HKz.out.frozen 1
  have zf2 := HKz.out.frozen 2
  have zf3 := HKz.out.frozen 3
  clear hb hz
  have hw := Hw.out
  go_wp2_with (go_at_call 34; refine (number_v (X := (fun k => X k ∨ k = W.heap.size)) (W := V) (by rintro k (hk | rfl); exact Nat.lt_of_lt_of_le (HX.out k hk) HB.out.size; exact HKz.out.lt) (a - b)).mono ?_; rintro e w1 ⟨v, rfl, hT, hb1⟩; obtain ⟨A9, n9, c9, rfl, hn⟩ := hT.form; have HT := Lib.hid hT; have HKz := Lib.hid (HKz.out.keep hb1); have HB := Lib.hid (below_step HB.out hb1); have z0 := HKz.out.cell 0; have z1 := HKz.out.cell 1; have z2 := HKz.out.cell 2; have z3 := HKz.out.cell 3; have zf0 := HKz.out.frozen 0; have zf1 := HKz.out.frozen 1; have zf2 := HKz.out.frozen 2; have zf3 := HKz.out.frozen 3; clear hn hT hb1)
  have hB2 := HKz.out.set4 (.int .i64 ((numP (a - b)).1).kind) (.int .i64 ((numP (a - b)).1).int) (.string ⟨((numP (a - b)).1).name.toArray⟩) (.slice A9 n9 c9)
  have y0 := hB2.cell 0
  have y1 := hB2.cell 1
  have y2 := hB2.cell 2
  have y3 := hB2.cell 3
  refine bodyPost_ret (v := .tuple #[.agg #[.int .i64 ((numP (a - b)).1).kind, .int .i64 ((numP (a - b)).1).int, .string ⟨((numP (a - b)).1).name.toArray⟩, .slice A9 n9 c9], .string ⟨((numP (a - b)).2).toArray⟩]) (by simp [results, Tryz.results53, go_sem, y0, y1, y2, y3]) rfl ?_
  obtain ⟨g1, g2⟩ := fin4 (X := X) HB.out (by omega) HT.out
  exact ⟨_, rfl, g1, g2⟩
set_option maxRecDepth 100000 in
set_option maxHeartbeats 1000000 in
theorem ones1_v {X : Nat → Prop} (hX : ∀ k, X k → k < W.heap.size) (h1 : TEx X W u1 t1) (hi : -1152921504606846976 ≤ t1.int ∧ t1.int ≤ 1152921504606846976) : Calls Tryz.prog 33 #[u1] W (R2 X W (if t1.kind = 1 then numP (-t1.int) else (tZ, sAri))) := by
  obtain ⟨A1, n1, c1, rfl, hn1⟩ := h1.form
  have H1 := Lib.hid h1
  have HN1 := Lib.hid hn1
  have HX := Lib.hid hX
  clear h1 hn1 hX
  have hw : wrap64 (-t1.int) = -t1.int := by unfold wrap64; omega
  clear hi
  by_cases k1 : t1.kind = 1
  · rw [if_pos k1]
    have Ik1 := Lib.hid k1
    have Ihw := Lib.hid hw
    clear k1 hw
    go_enter Tryz.func33, Tryz.ntmps33
    go_upto_region 1 with (fail)
    refine wp_world (fun V => Below W.heap.size W V ∧ Blk V (W.heap.size) 26 #[.int .i64 t1.kind, .int .i64 t1.int, .string ⟨t1.name.toArray⟩, .slice A1 n1 c1] ∧ Blk V (W.heap.size + 1) 26 #[.int .i64 0, .int .i64 0, .string ⟨#[]⟩, .slice none 0 0]) ⟨below_step (below_alloc _ _) (below_alloc _ _), ((Blk.newAt (by first | (with_reducible rfl) | simp)).alloc _), (Blk.newAt (by first | (with_reducible rfl) | simp))⟩ ?_
    rintro V ⟨hb, hq1, hz⟩
    have HB := Lib.hid hb
    have HKq1 := Lib.hid hq1
    have HKz := Lib.hid hz
    have q10 := HKq1.out.cell 0
    have q11 := HKq1.out.cell 1
    have q12 := HKq1.out.cell 2
    have q13 := HKq1.out.cell 3
    have q1f0 := HKq1.out.frozen 0
    have q1f1 := HKq1.out.frozen 1
    have q1f2 := HKq1.out.frozen 2
    have q1f3 := HKq1.out.frozen 3
    have z0 := HKz.out.cell 0
    have z1 := HKz.out.cell 1
    have z2 := HKz.out.cell 2
    have z3 := HKz.out.cell 3
    have zf0 := HKz.out.frozen 0
    have zf1 := HKz.out.frozen 1
    have zf2 := HKz.out.frozen 2
    have zf3 := HKz.out.frozen 3
    clear hb hq1 hz
    have k1 := Ik1.out
    have hw := Ihw.out
    go_wp2_with (go_at_call 34; refine (number_v (X := (fun k => X k ∨ k = W.heap.size + 1)) (W := V) (by rintro k (hk | rfl); exact Nat.lt_of_lt_of_le (HX.out k hk) HB.out.size; exact HKz.out.lt) (-t1.int)).mono ?_; rintro e w1 ⟨v, rfl, hT, hb1⟩; obtain ⟨A9, n9, c9, rfl, hn⟩ := hT.form; have HT := Lib.hid hT; have HKq1 := Lib.hid (HKq1.out.keep hb1); have HKz := Lib.hid (HKz.out.keep hb1); have HB := Lib.hid (below_step HB.out hb1); have q10 := HKq1.out.cell 0; have q11 := HKq1.out.cell 1; have q12 := HKq1.out.cell 2; have q13 := HKq1.out.cell 3; have q1f0 := HKq1.out.frozen 0; have q1f1 := HKq1.out.frozen 1; have q1f2 := HKq1.out.frozen 2; have q1f3 := HKq1.out.frozen 3; have z0 := HKz.out.cell 0; have z1 := HKz.out.cell 1; have z2 := HKz.out.cell 2; have z3 := HKz.out.cell 3; have zf0 := HKz.out.frozen 0; have zf1 := HKz.out.frozen 1; have zf2 := HKz.out.frozen 2; have zf3 := HKz.out.frozen 3; clear hn hT hb1)
    have hB2 := HKz.out.set4 (.int .i64 ((numP (-t1.int)).1).kind) (.int .i64 ((numP (-t1.int)).1).int) (.string ⟨((numP (-t1.int)).1).name.toArray⟩) (.slice A9 n9 c9)
    have y0 := hB2.cell 0
    have y1 := hB2.cell 1
    have y2 := hB2.cell 2
    have y3 := hB2.cell 3
    refine bodyPost_ret (v := .tuple #[.agg #[.int .i64 ((numP (-t1.int)).1).kind, .int .i64 ((numP (-t1.int)).1).int, .string ⟨((numP (-t1.int)).1).name.toArray⟩, .slice A9 n9 c9], .string ⟨((numP (-t1.int)).2).toArray⟩]) (by simp [results, Tryz.results33, go_sem, y0, y1, y2, y3]) rfl ?_
    obtain ⟨g1, g2⟩ := fin4 (X := X) HB.out (by omega) HT.out
    exact ⟨_, rfl, g1, g2⟩
  · rw [if_neg k1]
    clear hw
    have Ik1 := Lib.hid k1
    clear k1
    go_enter Tryz.func33, Tryz.ntmps33
    go_upto_region 1 with (fail)
    refine wp_world (fun V => Below W.heap.size W V ∧ Blk V (W.heap.size) 26 #[.int .i64 t1.kind, .int .i64 t1.int, .string ⟨t1.name.toArray⟩, .slice A1 n1 c1] ∧ Blk V (W.heap.size + 1) 26 #[.int .i64 0, .int .i64 0, .string ⟨#[]⟩, .slice none 0 0]) ⟨below_step (below_alloc _ _) (below_alloc _ _), ((Blk.newAt (by first | (with_reducible rfl) | simp)).alloc _), (Blk.newAt (by first | (with_reducible rfl) | simp))⟩ ?_
    rintro V ⟨hb, hq1, hz⟩
    have HB := Lib.hid hb
    have HKq1 := Lib.hid hq1
    have HKz := Lib.hid hz
    have q10 := HKq1.out.cell 0
    have q11 := HKq1.out.cell 1
    have q12 := HKq1.out.cell 2
    have q13 := HKq1.out.cell 3
    have q1f0 := HKq1.out.frozen 0
    have q1f1 := HKq1.out.frozen 1
    have q1f2 := HKq1.out.frozen 2
    have q1f3 := HKq1.out.frozen 3
    have z0 := HKz.out.cell 0
    have z1 := HKz.out.cell 1
    have z2 := HKz.out.cell 2
    have z3 := HKz.out.cell 3
    have zf0 := HKz.out.frozen 0
    have zf1 := HKz.out.frozen 1
    have zf2 := HKz.out.frozen 2
    have zf3 := HKz.out.frozen 3
    clear hb hq1 hz
    have k1 := Ik1.out
    go_wp2_with (go_at_call 20; refine (wrong_v (fun k => X k ∨ k = W.heap.size + 1) sAri V).mono ?_; rintro e w1 ⟨v, rfl, hT, hb1⟩; obtain ⟨A9, n9, c9, rfl, hn⟩ := hT.form; have HT := Lib.hid hT; have HKq1 := Lib.hid (HKq1.out.keep hb1); have HKz := Lib.hid (HKz.out.keep hb1); have HB := Lib.hid (below_step HB.out hb1); have q10 := HKq1.out.cell 0; have q11 := HKq1.out.cell 1; have q12 := HKq1.out.cell 2; have q13 := HKq1.out.cell 3; have q1f0 := HKq1.out.frozen 0; have q1f1 := HKq1.out.frozen 1; have q1f2 := HKq1.out.frozen 2; have q1f3 := HKq1.out.frozen 3; have z0 := HKz.out.cell 0; have z1 := HKz.out.cell 1; have z2 := HKz.out.cell 2; have z3 := HKz.out.cell 3; have zf0 := HKz.out.frozen 0; have zf1 := HKz.out.frozen 1; have zf2 := HKz.out.frozen 2; have zf3 := HKz.out.frozen 3; clear hn hT hb1)
    have hB2 := HKz.out.set4 (.int .i64 (tZ).kind) (.int .i64 (tZ).int) (.string ⟨(tZ).name.toArray⟩) (.slice A9 n9 c9)
    have y0 := hB2.cell 0
    have y1 := hB2.cell 1
    have y2 := hB2.cell 2
    have y3 := hB2.cell 3
    refine bodyPost_ret (v := .tuple #[.agg #[.int .i64 (tZ).kind, .int .i64 (tZ).int, .string ⟨(tZ).name.toArray⟩, .slice A9 n9 c9], .string ⟨(sAri).toArray⟩]) (by simp [results, Tryz.results33, go_sem, y0, y1, y2, y3]) rfl ?_
    obtain ⟨g1, g2⟩ := fin4 (X := X) HB.out (by omega) HT.out
    exact ⟨_, rfl, g1, g2⟩
set_option maxRecDepth 100000 in
set_option maxHeartbeats 1000000 in
theorem ones2_v {X : Nat → Prop} (hX : ∀ k, X k → k < W.heap.size) (h1 : TEx X W u1 t1) : Calls Tryz.prog 35 #[u1] W (R2 X W (if (lgP t1).2 = true then (truT (!(lgP t1).1), []) else (tZ, sArg))) := by
  obtain ⟨A1, n1, c1, rfl, hn1⟩ := h1.form
  have H1 := Lib.hid h1
  have HN1 := Lib.hid hn1
  have HX := Lib.hid hX
  clear h1 hn1 hX
  have HL1 : Hid (∀ V, Below W.heap.size W V → Calls Tryz.prog 36 #[.agg #[.int .i64 t1.kind, .int .i64 t1.int, .string ⟨t1.name.toArray⟩, .slice A1 n1 c1]] V fun e w' => e = .returned (.tuple #[.bool (lgP t1).1, .bool (lgP t1).2]) ∧ Below V.heap.size V w') := fun V hb => logic_v (X := X) (fun k hk => Nat.lt_of_lt_of_le (HX.out k hk) hb.size) (H1.out.below hb)
  obtain ⟨x1, y1, hp1⟩ : ∃ x y, lgP t1 = (x, y) := ⟨_, _, rfl⟩
  rw [hp1] at HL1 ⊢
  clear hp1
  cases y1 with
  | false =>
    rw [if_neg (fun h => by simp at h)]
    go_enter Tryz.func35, Tryz.ntmps35
    go_upto_region 1 with (fail)
    refine wp_world (fun V => Below W.heap.size W V ∧ Blk V (W.heap.size) 26 #[.int .i64 t1.kind, .int .i64 t1.int, .string ⟨t1.name.toArray⟩, .slice A1 n1 c1] ∧ Blk V (W.heap.size + 1) 26 #[.int .i64 0, .int .i64 0, .string ⟨#[]⟩, .slice none 0 0]) ⟨below_step (below_alloc _ _) (below_alloc _ _), ((Blk.newAt (by first | (with_reducible rfl) | simp)).alloc _), (Blk.newAt (by first | (with_reducible rfl) | simp))⟩ ?_
    rintro V ⟨hb, hq1, hz⟩
    have HB := Lib.hid hb
    have HKq1 := Lib.hid hq1
    have HKz := Lib.hid hz
    have q10 := HKq1.out.cell 0
    have q11 := HKq1.out.cell 1
    have q12 := HKq1.out.cell 2
    have q13 := HKq1.out.cell 3
    have q1f0 := HKq1.out.frozen 0
    have q1f1 := HKq1.out.frozen 1
    have q1f2 := HKq1.out.frozen 2
    have q1f3 := HKq1.out.frozen 3
    have z0 := HKz.out.cell 0
    have z1 := HKz.out.cell 1
    have z2 := HKz.out.cell 2
    have z3 := HKz.out.cell 3
    have zf0 := HKz.out.frozen 0
    have zf1 := HKz.out.frozen 1
    have zf2 := HKz.out.frozen 2
    have zf3 := HKz.out.frozen 3
    clear hb hq1 hz
    go_wp2_with (first | (go_at_call 36; with_reducible refine (HL1.out V HB.out).mono ?_; rintro e V ⟨rfl, hb1⟩; have HKq1 := Lib.hid (HKq1.out.keep hb1); have HKz := Lib.hid (HKz.out.keep hb1); have HB := Lib.hid (below_step HB.out hb1); have q10 := HKq1.out.cell 0; have q11 := HKq1.out.cell 1; have q12 := HKq1.out.cell 2; have q13 := HKq1.out.cell 3; have q1f0 := HKq1.out.frozen 0; have q1f1 := HKq1.out.frozen 1; have q1f2 := HKq1.out.frozen 2; have q1f3 := HKq1.out.frozen 3; have z0 := HKz.out.cell 0; have z1 := HKz.out.cell 1; have z2 := HKz.out.cell 2; have z3 := HKz.out.cell 3; have zf0 := HKz.out.frozen 0; have zf1 := HKz.out.frozen 1; have zf2 := HKz.out.frozen 2; have zf3 := HKz.out.frozen 3; clear hb1) | (go_at_call 20; refine (wrong_v (fun k => X k ∨ k = W.heap.size + 1) sArg V).mono ?_; rintro e w1 ⟨v, rfl, hT, hb1⟩; obtain ⟨A9, n9, c9, rfl, hn⟩ := hT.form; have HT := Lib.hid hT; have HKq1 := Lib.hid (HKq1.out.keep hb1); have HKz := Lib.hid (HKz.out.keep hb1); have HB := Lib.hid (below_step HB.out hb1); have q10 := HKq1.out.cell 0; have q11 := HKq1.out.cell 1; have q12 := HKq1.out.cell 2; have q13 := HKq1.out.cell 3; have q1f0 := HKq1.out.frozen 0; have q1f1 := HKq1.out.frozen 1; have q1f2 := HKq1.out.frozen 2; have q1f3 := HKq1.out.frozen 3; have z0 := HKz.out.cell 0; have z1 := HKz.out.cell 1; have z2 := HKz.out.cell 2; have z3 := HKz.out.cell 3; have zf0 := HKz.out.frozen 0; have zf1 := HKz.out.frozen 1; have zf2 := HKz.out.frozen 2; have zf3 := HKz.out.frozen 3; clear hn hT hb1))
    have hB2 := HKz.out.set4 (.int .i64 (tZ).kind) (.int .i64 (tZ).int) (.string ⟨(tZ).name.toArray⟩) (.slice A9 n9 c9)
    have y0 := hB2.cell 0
    have y1 := hB2.cell 1
    have y2 := hB2.cell 2
    have y3 := hB2.cell 3
    refine bodyPost_ret (v := .tuple #[.agg #[.int .i64 (tZ).kind, .int .i64 (tZ).int, .string ⟨(tZ).name.toArray⟩, .slice A9 n9 c9], .string ⟨(sArg).toArray⟩]) (by simp [results, Tryz.results35, go_sem, y0, y1, y2, y3]) rfl ?_
    obtain ⟨g1, g2⟩ := fin4 (X := X) HB.out (by omega) HT.out
    exact ⟨_, rfl, g1, g2⟩
  | true =>
    rw [if_pos rfl]
    go_enter Tryz.func35, Tryz.ntmps35
    go_upto_region 1 with (fail)
    refine wp_world (fun V => Below W.heap.size W V ∧ Blk V (W.heap.size) 26 #[.int .i64 t1.kind, .int .i64 t1.int, .string ⟨t1.name.toArray⟩, .slice A1 n1 c1] ∧ Blk V (W.heap.size + 1) 26 #[.int .i64 0, .int .i64 0, .string ⟨#[]⟩, .slice none 0 0]) ⟨below_step (below_alloc _ _) (below_alloc _ _), ((Blk.newAt (by first | (with_reducible rfl) | simp)).alloc _), (Blk.newAt (by first | (with_reducible rfl) | simp))⟩ ?_
    rintro V ⟨hb, hq1, hz⟩
    have HB := Lib.hid hb
    have HKq1 := Lib.hid hq1
    have HKz := Lib.hid hz
    have q10 := HKq1.out.cell 0
    have q11 := HKq1.out.cell 1
    have q12 := HKq1.out.cell 2
    have q13 := HKq1.out.cell 3
    have q1f0 := HKq1.out.frozen 0
    have q1f1 := HKq1.out.frozen 1
    have q1f2 := HKq1.out.frozen 2
    have q1f3 := HKq1.out.frozen 3
    have z0 := HKz.out.cell 0
    have z1 := HKz.out.cell 1
    have z2 := HKz.out.cell 2
    have z3 := HKz.out.cell 3
    have zf0 := HKz.out.frozen 0
    have zf1 := HKz.out.frozen 1
    have zf2 := HKz.out.frozen 2
    have zf3 := HKz.out.frozen 3
    clear hb hq1 hz
    go_wp2_with (first | (go_at_call 36; with_reducible refine (HL1.out V HB.out).mono ?_; rintro e V ⟨rfl, hb1⟩; have HKq1 := Lib.hid (HKq1.out.keep hb1); have HKz := Lib.hid (HKz.out.keep hb1); have HB := Lib.hid (below_step HB.out hb1); have q10 := HKq1.out.cell 0; have q11 := HKq1.out.cell 1; have q12 := HKq1.out.cell 2; have q13 := HKq1.out.cell 3; have q1f0 := HKq1.out.frozen 0; have q1f1 := HKq1.out.frozen 1; have q1f2 := HKq1.out.frozen 2; have q1f3 := HKq1.out.frozen 3; have z0 := HKz.out.cell 0; have z1 := HKz.out.cell 1; have z2 := HKz.out.cell 2; have z3 := HKz.out.cell 3; have zf0 := HKz.out.frozen 0; have zf1 := HKz.out.frozen 1; have zf2 := HKz.out.frozen 2; have zf3 := HKz.out.frozen 3; clear hb1) | (go_at_call 37; refine (truth_v (X := (fun k => X k ∨ k = W.heap.size + 1)) (W := V) (by rintro k (hk | rfl); exact Nat.lt_of_lt_of_le (HX.out k hk) HB.out.size; exact HKz.out.lt) (!x1)).mono ?_; rintro e w1 ⟨v, rfl, hT, hb1⟩; obtain ⟨A9, n9, c9, rfl, hn⟩ := hT.form; have HT := Lib.hid hT; have HKq1 := Lib.hid (HKq1.out.keep hb1); have HKz := Lib.hid (HKz.out.keep hb1); have HB := Lib.hid (below_step HB.out hb1); have q10 := HKq1.out.cell 0; have q11 := HKq1.out.cell 1; have q12 := HKq1.out.cell 2; have q13 := HKq1.out.cell 3; have q1f0 := HKq1.out.frozen 0; have q1f1 := HKq1.out.frozen 1; have q1f2 := HKq1.out.frozen 2; have q1f3 := HKq1.out.frozen 3; have z0 := HKz.out.cell 0; have z1 := HKz.out.cell 1; have z2 := HKz.out.cell 2; have z3 := HKz.out.cell 3; have zf0 := HKz.out.frozen 0; have zf1 := HKz.out.frozen 1; have zf2 := HKz.out.frozen 2; have zf3 := HKz.out.frozen 3; clear hn hT hb1))
    have hB2 := HKz.out.set4 (.int .i64 ((truT (!x1))).kind) (.int .i64 ((truT (!x1))).int) (.string ⟨((truT (!x1))).name.toArray⟩) (.slice A9 n9 c9)
    have y0 := hB2.cell 0
    have y1 := hB2.cell 1
    have y2 := hB2.cell 2
    have y3 := hB2.cell 3
    refine bodyPost_ret (v := .tuple #[.agg #[.int .i64 ((truT (!x1))).kind, .int .i64 ((truT (!x1))).int, .string ⟨((truT (!x1))).name.toArray⟩, .slice A9 n9 c9], .string ⟨(([] : List UInt8)).toArray⟩]) (by simp [results, Tryz.results35, go_sem, y0, y1, y2, y3]) rfl ?_
    obtain ⟨g1, g2⟩ := fin4 (X := X) HB.out (by omega) HT.out
    exact ⟨_, rfl, g1, g2⟩
set_option maxRecDepth 100000 in
set_option maxHeartbeats 1000000 in
theorem ones3_v {X : Nat → Prop} (hX : ∀ k, X k → k < W.heap.size) (h1 : TEx X W u1 t1) (hj : 0 < t1.items.length) : Calls Tryz.prog 40 #[u1] W (R2 X W (t1.items[0], [])) := by
  obtain ⟨A1, n1, c1, rfl, hn1⟩ := h1.form
  have H1 := Lib.hid h1
  have HN1 := Lib.hid hn1
  have HX := Lib.hid hX
  clear h1 hn1 hX
  obtain ⟨ib, io, IA, im, ic, hA, e0, e1, e2, e3, hin, hIT⟩ := (H1.out.up (p := W.heap.size + 1) (Below.refl _ _) (by omega)).items.item (j := 0) hj
  have IhA := Lib.hid hA
  clear hA
  have HN1 := Lib.hid HN1.out
  have HI0 := Lib.hid e0
  have HI1 := Lib.hid e1
  have HI2 := Lib.hid e2
  have HI3 := Lib.hid e3
  have HIT := Lib.hid hIT
  have hl2 := HN1.out
  clear hIT hin
  clear e0
  clear e1
  clear e2
  clear e3
  have hjn : 0 < n1 := by omega
  have Hj := Lib.hid hjn
  clear hjn hl2
  go_enter Tryz.func40, Tryz.ntmps40
  go_upto_region 1 with (fail)
  refine wp_world (fun V => Below W.heap.size W V ∧ Blk V (W.heap.size) 26 #[.int .i64 t1.kind, .int .i64 t1.int, .string ⟨t1.name.toArray⟩, .slice A1 n1 c1] ∧ Blk V (W.heap.size + 1) 26 #[.int .i64 0, .int .i64 0, .string ⟨#[]⟩, .slice none 0 0]) ⟨below_step (below_alloc _ _) (below_alloc _ _), ((Blk.newAt (by first | (with_reducible rfl) | simp)).alloc _), (Blk.newAt (by first | (with_reducible rfl) | simp))⟩ ?_
  rintro V ⟨hb, hq1, hz⟩
  have HB := Lib.hid hb
  have HKq1 := Lib.hid hq1
  have HKz := Lib.hid hz
  have q10 := HKq1.out.cell 0
  have q11 := HKq1.out.cell 1
  have q12 := HKq1.out.cell 2
  have q13 := HKq1.out.cell 3
  have q1f0 := HKq1.out.frozen 0
  have q1f1 := HKq1.out.frozen 1
  have q1f2 := HKq1.out.frozen 2
  have q1f3 := HKq1.out.frozen 3
  have z0 := HKz.out.cell 0
  have z1 := HKz.out.cell 1
  have z2 := HKz.out.cell 2
  have z3 := HKz.out.cell 3
  have zf0 := HKz.out.frozen 0
  have zf1 := HKz.out.frozen 1
  have zf2 := HKz.out.frozen 2
  have zf3 := HKz.out.frozen 3
  clear hb hq1 hz
  have hjn := Hj.out
  have hA := IhA.out
  have hlt : ib < W.heap.size := World.block_lt_of_cell? W _ HI0.out
  have i0 : V.cell? ⟨ib, io, none⟩ = some (.int .i64 t1.items[0].kind) := (HB.out.cell hlt).trans (by simpa using HI0.out)
  have i1 : V.cell? ⟨ib, io + 1, none⟩ = some (.int .i64 t1.items[0].int) := (HB.out.cell hlt).trans (by simpa using HI1.out)
  have i2 : V.cell? ⟨ib, io + 2, none⟩ = some (.string ⟨t1.items[0].name.toArray⟩) := (HB.out.cell hlt).trans (by simpa using HI2.out)
  have i3 : V.cell? ⟨ib, io + 3, none⟩ = some (.slice IA im ic) := (HB.out.cell hlt).trans (by simpa using HI3.out)
  clear hlt
  go_wp2
  have HT := Lib.hid (HIT.out.below HB.out)
  have hB2 := HKz.out.set4 (.int .i64 (t1.items[0]).kind) (.int .i64 (t1.items[0]).int) (.string ⟨(t1.items[0]).name.toArray⟩) (.slice IA im ic)
  have y0 := hB2.cell 0
  have y1 := hB2.cell 1
  have y2 := hB2.cell 2
  have y3 := hB2.cell 3
  refine bodyPost_ret (v := .tuple #[.agg #[.int .i64 (t1.items[0]).kind, .int .i64 (t1.items[0]).int, .string ⟨(t1.items[0]).name.toArray⟩, .slice IA im ic], .string ⟨(([] : List UInt8)).toArray⟩]) (by simp [results, Tryz.results40, go_sem, y0, y1, y2, y3]) rfl ?_
  obtain ⟨g1, g2⟩ := fin4 (X := X) HB.out (by omega) HT.out
  exact ⟨_, rfl, g1, g2⟩
set_option maxRecDepth 100000 in
set_option maxHeartbeats 1000000 in
theorem ones4_v {X : Nat → Prop} (hX : ∀ k, X k → k < W.heap.size) (h1 : TEx X W u1 t1) (hj : 1 < t1.items.length) : Calls Tryz.prog 41 #[u1] W (R2 X W (t1.items[1], [])) := by
  obtain ⟨A1, n1, c1, rfl, hn1⟩ := h1.form
  have H1 := Lib.hid h1
  have HN1 := Lib.hid hn1
  have HX := Lib.hid hX
  clear h1 hn1 hX
  obtain ⟨ib, io, IA, im, ic, hA, e0, e1, e2, e3, hin, hIT⟩ := (H1.out.up (p := W.heap.size + 1) (Below.refl _ _) (by omega)).items.item (j := 1) hj
  have IhA := Lib.hid hA
  clear hA
  have HN1 := Lib.hid HN1.out
  have HI0 := Lib.hid e0
  have HI1 := Lib.hid e1
  have HI2 := Lib.hid e2
  have HI3 := Lib.hid e3
  have HIT := Lib.hid hIT
  have hl2 := HN1.out
  clear hIT hin
  clear e0
  clear e1
  clear e2
  clear e3
  have hjn : 1 < n1 := by omega
  have Hj := Lib.hid hjn
  clear hjn hl2
  go_enter Tryz.func41, Tryz.ntmps41
  go_upto_region 1 with (fail)
  refine wp_world (fun V => Below W.heap.size W V ∧ Blk V (W.heap.size) 26 #[.int .i64 t1.kind, .int .i64 t1.int, .string ⟨t1.name.toArray⟩, .slice A1 n1 c1] ∧ Blk V (W.heap.size + 1) 26 #[.int .i64 0, .int .i64 0, .string ⟨#[]⟩, .slice none 0 0]) ⟨below_step (below_alloc _ _) (below_alloc _ _), ((Blk.newAt (by first | (with_reducible rfl) | simp)).alloc _), (Blk.newAt (by first | (with_reducible rfl) | simp))⟩ ?_
  rintro V ⟨hb, hq1, hz⟩
  have HB := Lib.hid hb
  have HKq1 := Lib.hid hq1
  have HKz := Lib.hid hz
  have q10 := HKq1.out.cell 0
  have q11 := HKq1.out.cell 1
  have q12 := HKq1.out.cell 2
  have q13 := HKq1.out.cell 3
  have q1f0 := HKq1.out.frozen 0
  have q1f1 := HKq1.out.frozen 1
  have q1f2 := HKq1.out.frozen 2
  have q1f3 := HKq1.out.frozen 3
  have z0 := HKz.out.cell 0
  have z1 := HKz.out.cell 1
  have z2 := HKz.out.cell 2
  have z3 := HKz.out.cell 3
  have zf0 := HKz.out.frozen 0
  have zf1 := HKz.out.frozen 1
  have zf2 := HKz.out.frozen 2
  have zf3 := HKz.out.frozen 3
  clear hb hq1 hz
  have hjn := Hj.out
  have hA := IhA.out
  have hlt : ib < W.heap.size := World.block_lt_of_cell? W _ HI0.out
  have i0 : V.cell? ⟨ib, io + 4, none⟩ = some (.int .i64 t1.items[1].kind) := (HB.out.cell hlt).trans (by simpa using HI0.out)
  have i1 : V.cell? ⟨ib, io + 4 + 1, none⟩ = some (.int .i64 t1.items[1].int) := (HB.out.cell hlt).trans (by simpa using HI1.out)
  have i2 : V.cell? ⟨ib, io + 4 + 2, none⟩ = some (.string ⟨t1.items[1].name.toArray⟩) := (HB.out.cell hlt).trans (by simpa using HI2.out)
  have i3 : V.cell? ⟨ib, io + 4 + 3, none⟩ = some (.slice IA im ic) := (HB.out.cell hlt).trans (by simpa using HI3.out)
  clear hlt
  go_wp2
  have HT := Lib.hid (HIT.out.below HB.out)
  have hB2 := HKz.out.set4 (.int .i64 (t1.items[1]).kind) (.int .i64 (t1.items[1]).int) (.string ⟨(t1.items[1]).name.toArray⟩) (.slice IA im ic)
  have y0 := hB2.cell 0
  have y1 := hB2.cell 1
  have y2 := hB2.cell 2
  have y3 := hB2.cell 3
  refine bodyPost_ret (v := .tuple #[.agg #[.int .i64 (t1.items[1]).kind, .int .i64 (t1.items[1]).int, .string ⟨(t1.items[1]).name.toArray⟩, .slice IA im ic], .string ⟨(([] : List UInt8)).toArray⟩]) (by simp [results, Tryz.results41, go_sem, y0, y1, y2, y3]) rfl ?_
  obtain ⟨g1, g2⟩ := fin4 (X := X) HB.out (by omega) HT.out
  exact ⟨_, rfl, g1, g2⟩
set_option maxRecDepth 100000 in
set_option maxHeartbeats 1000000 in
theorem ones5_v {X : Nat → Prop} (hX : ∀ k, X k → k < W.heap.size) (h1 : TEx X W u1 t1) : Calls Tryz.prog 42 #[u1] W (R2 X W (tI (t1.items.length : Nat), [])) := by
  obtain ⟨A1, n1, c1, rfl, hn1⟩ := h1.form
  have H1 := Lib.hid h1
  have HN1 := Lib.hid hn1
  have HX := Lib.hid hX
  clear h1 hn1 hX
  rw [HN1.out]
  go_enter Tryz.func42, Tryz.ntmps42
  go_upto_region 1 with (fail)
  refine wp_world (fun V => Below W.heap.size W V ∧ Blk V (W.heap.size) 26 #[.int .i64 t1.kind, .int .i64 t1.int, .string ⟨t1.name.toArray⟩, .slice A1 n1 c1] ∧ Blk V (W.heap.size + 1) 26 #[.int .i64 0, .int .i64 0, .string ⟨#[]⟩, .slice none 0 0]) ⟨below_step (below_alloc _ _) (below_alloc _ _), ((Blk.newAt (by first | (with_reducible rfl) | simp)).alloc _), (Blk.newAt (by first | (with_reducible rfl) | simp))⟩ ?_
  rintro V ⟨hb, hq1, hz⟩
  have HB := Lib.hid hb
  have HKq1 := Lib.hid hq1
  have HKz := Lib.hid hz
  have q10 := HKq1.out.cell 0
  have q11 := HKq1.out.cell 1
  have q12 := HKq1.out.cell 2
  have q13 := HKq1.out.cell 3
  have q1f0 := HKq1.out.frozen 0
  have q1f1 := HKq1.out.frozen 1
  have q1f2 := HKq1.out.frozen 2
  have q1f3 := HKq1.out.frozen 3
  have z0 := HKz.out.cell 0
  have z1 := HKz.out.cell 1
  have z2 := HKz.out.cell 2
  have z3 := HKz.out.cell 3
  have zf0 := HKz.out.frozen 0
  have zf1 := HKz.out.frozen 1
  have zf2 := HKz.out.frozen 2
  have zf3 := HKz.out.frozen 3
  clear hb hq1 hz
  go_wp2_with (go_at_call 43; refine (r1_int (fun k => X k ∨ k = W.heap.size + 1) (n1 : Nat) V).mono ?_; rintro e w1 ⟨v, rfl, hT, hb1⟩; obtain ⟨A9, n9, c9, rfl, hn⟩ := hT.form; have HT := Lib.hid hT; have HKq1 := Lib.hid (HKq1.out.keep hb1); have HKz := Lib.hid (HKz.out.keep hb1); have HB := Lib.hid (below_step HB.out hb1); have q10 := HKq1.out.cell 0; have q11 := HKq1.out.cell 1; have q12 := HKq1.out.cell 2; have q13 := HKq1.out.cell 3; have q1f0 := HKq1.out.frozen 0; have q1f1 := HKq1.out.frozen 1; have q1f2 := HKq1.out.frozen 2; have q1f3 := HKq1.out.frozen 3; have z0 := HKz.out.cell 0; have z1 := HKz.out.cell 1; have z2 := HKz.out.cell 2; have z3 := HKz.out.cell 3; have zf0 := HKz.out.frozen 0; have zf1 := HKz.out.frozen 1; have zf2 := HKz.out.frozen 2; have zf3 := HKz.out.frozen 3; clear hn hT hb1)
  have hB2 := HKz.out.set4 (.int .i64 ((tI (n1 : Nat))).kind) (.int .i64 ((tI (n1 : Nat))).int) (.string ⟨((tI (n1 : Nat))).name.toArray⟩) (.slice A9 n9 c9)
  have y0 := hB2.cell 0
  have y1 := hB2.cell 1
  have y2 := hB2.cell 2
  have y3 := hB2.cell 3
  refine bodyPost_ret (v := .tuple #[.agg #[.int .i64 ((tI (n1 : Nat))).kind, .int .i64 ((tI (n1 : Nat))).int, .string ⟨((tI (n1 : Nat))).name.toArray⟩, .slice A9 n9 c9], .string ⟨(([] : List UInt8)).toArray⟩]) (by simp [results, Tryz.results42, go_sem, y0, y1, y2, y3]) rfl ?_
  obtain ⟨g1, g2⟩ := fin4 (X := X) HB.out (by omega) HT.out
  exact ⟨_, rfl, g1, g2⟩
set_option maxRecDepth 100000 in
set_option maxHeartbeats 1000000 in
theorem twos13_v {X : Nat → Prop} (hX : ∀ k, X k → k < W.heap.size) (h1 : TEx X W u1 t1) (h2 : TEx X W u2 t2) : Calls Tryz.prog 68 #[u1, u2] W (R2 X W (fitP (tC t1 t2))) := by
  obtain ⟨A1, n1, c1, rfl, hn1⟩ := h1.form
  have H1 := Lib.hid h1
  have HN1 := Lib.hid hn1
  obtain ⟨A2, n2, c2, rfl, hn2⟩ := h2.form
  have H2 := Lib.hid h2
  have HN2 := Lib.hid hn2
  have HX := Lib.hid hX
  clear h1 hn1 h2 hn2 hX
  go_enter Tryz.func68, Tryz.ntmps68
  go_upto_region 1 with (fail)
  refine wp_world (fun V => Below W.heap.size W V ∧ Blk V (W.heap.size) 26 #[.int .i64 t1.kind, .int .i64 t1.int, .string ⟨t1.name.toArray⟩, .slice A1 n1 c1] ∧ Blk V (W.heap.size + 1) 26 #[.int .i64 t2.kind, .int .i64 t2.int, .string ⟨t2.name.toArray⟩, .slice A2 n2 c2] ∧ Blk V (W.heap.size + 1 + 1) 26 #[.int .i64 0, .int .i64 0, .string ⟨#[]⟩, .slice none 0 0]) ⟨below_step (below_step (below_alloc _ _) (below_alloc _ _)) (below_alloc _ _), (((Blk.newAt (by first | (with_reducible rfl) | simp)).alloc _).alloc _), ((Blk.newAt (by first | (with_reducible rfl) | simp)).alloc _), (Blk.newAt (by first | (with_reducible rfl) | simp))⟩ ?_
  rintro V ⟨hb, hq1, hq2, hz⟩
  have HB := Lib.hid hb
  have HKq1 := Lib.hid hq1
  have HKq2 := Lib.hid hq2
  have HKz := Lib.hid hz
  have q10 := HKq1.out.cell 0
  have q11 := HKq1.out.cell 1
  have q12 := HKq1.out.cell 2
  have q13 := HKq1.out.cell 3
  have q1f0 := HKq1.out.frozen 0
  have q1f1 := HKq1.out.frozen 1
  have q1f2 := HKq1.out.frozen 2
  have q1f3 := HKq1.out.frozen 3
  have q20 := HKq2.out.cell 0
  have q21 := HKq2.out.cell 1
  have q22 := HKq2.out.cell 2
  have q23 := HKq2.out.cell 3
  have q2f0 := HKq2.out.frozen 0
  have q2f1 := HKq2.out.frozen 1
  have q2f2 := HKq2.out.frozen 2
  have q2f3 := HKq2.out.frozen 3
  have z0 := HKz.out.cell 0
  have z1 := HKz.out.cell 1
  have z2 := HKz.out.cell 2
  have z3 := HKz.out.cell 3
  have zf0 := HKz.out.frozen 0
  have zf1 := HKz.out.frozen 1
  have zf2 := HKz.out.frozen 2
  have zf3 := HKz.out.frozen 3
  clear hb hq1 hq2 hz
  go_wp2_with (first | (go_at_call 69; refine (pcons_v (X := (fun k => X k ∨ k = W.heap.size + 1 + 1)) (W := V) (by rintro k (hk | rfl); exact Nat.lt_of_lt_of_le (HX.out k hk) HB.out.size; exact HKz.out.lt) (H1.out.up HB.out (by omega)) (H2.out.up HB.out (by omega))).mono ?_; rintro e V ⟨v, rfl, hTc, hb1⟩; obtain ⟨A7, n7, c7, rfl, hn7⟩ := hTc.form; have HTC := Lib.hid hTc; have HKq1 := Lib.hid (HKq1.out.keep hb1); have HKq2 := Lib.hid (HKq2.out.keep hb1); have HKz := Lib.hid (HKz.out.keep hb1); have HB := Lib.hid (below_step HB.out hb1); have q10 := HKq1.out.cell 0; have q11 := HKq1.out.cell 1; have q12 := HKq1.out.cell 2; have q13 := HKq1.out.cell 3; have q1f0 := HKq1.out.frozen 0; have q1f1 := HKq1.out.frozen 1; have q1f2 := HKq1.out.frozen 2; have q1f3 := HKq1.out.frozen 3; have q20 := HKq2.out.cell 0; have q21 := HKq2.out.cell 1; have q22 := HKq2.out.cell 2; have q23 := HKq2.out.cell 3; have q2f0 := HKq2.out.frozen 0; have q2f1 := HKq2.out.frozen 1; have q2f2 := HKq2.out.frozen 2; have q2f3 := HKq2.out.frozen 3; have z0 := HKz.out.cell 0; have z1 := HKz.out.cell 1; have z2 := HKz.out.cell 2; have z3 := HKz.out.cell 3; have zf0 := HKz.out.frozen 0; have zf1 := HKz.out.frozen 1; have zf2 := HKz.out.frozen 2; have zf3 := HKz.out.frozen 3; clear hb1 hTc hn7) | (go_at_call 16; refine (fits_v (X := (fun k => X k ∨ k = W.heap.size + 1 + 1)) (W := V) (by rintro k (hk | rfl); exact Nat.lt_of_lt_of_le (HX.out k hk) HB.out.size; exact HKz.out.lt) HTC.out).mono ?_; rintro e w1 ⟨v, rfl, hT, hb1⟩; obtain ⟨A9, n9, c9, rfl, hn⟩ := hT.form; have HT := Lib.hid hT; have HKq1 := Lib.hid (HKq1.out.keep hb1); have HKq2 := Lib.hid (HKq2.out.keep hb1); have HKz := Lib.hid (HKz.out.keep hb1); have HB := Lib.hid (below_step HB.out hb1); have q10 := HKq1.out.cell 0; have q11 := HKq1.out.cell 1; have q12 := HKq1.out.cell 2; have q13 := HKq1.out.cell 3; have q1f0 := HKq1.out.frozen 0; have q1f1 := HKq1.out.frozen 1; have q1f2 := HKq1.out.frozen 2; have q1f3 := HKq1.out.frozen 3; have q20 := HKq2.out.cell 0; have q21 := HKq2.out.cell 1; have q22 := HKq2.out.cell 2; have q23 := HKq2.out.cell 3; have q2f0 := HKq2.out.frozen 0; have q2f1 := HKq2.out.frozen 1; have q2f2 := HKq2.out.frozen 2; have q2f3 := HKq2.out.frozen 3; have z0 := HKz.out.cell 0; have z1 := HKz.out.cell 1; have z2 := HKz.out.cell 2; have z3 := HKz.out.cell 3; have zf0 := HKz.out.frozen 0; have zf1 := HKz.out.frozen 1; have zf2 := HKz.out.frozen 2; have zf3 := HKz.out.frozen 3; clear hn hT hb1))
  have hB2 := HKz.out.set4 (.int .i64 ((fitP (tC t1 t2)).1).kind) (.int .i64 ((fitP (tC t1 t2)).1).int) (.string ⟨((fitP (tC t1 t2)).1).name.toArray⟩) (.slice A9 n9 c9)
  have y0 := hB2.cell 0
  have y1 := hB2.cell 1
  have y2 := hB2.cell 2
  have y3 := hB2.cell 3
  refine bodyPost_ret (v := .tuple #[.agg #[.int .i64 ((fitP (tC t1 t2)).1).kind, .int .i64 ((fitP (tC t1 t2)).1).int, .string ⟨((fitP (tC t1 t2)).1).name.toArray⟩, .slice A9 n9 c9], .string ⟨((fitP (tC t1 t2)).2).toArray⟩]) (by simp [results, Tryz.results68, go_sem, y0, y1, y2, y3]) rfl ?_
  obtain ⟨g1, g2⟩ := fin4 (X := X) HB.out (by omega) HT.out
  exact ⟨_, rfl, g1, g2⟩
set_option maxRecDepth 100000 in
set_option maxHeartbeats 1000000 in
theorem twos14_v {X : Nat → Prop} (hX : ∀ k, X k → k < W.heap.size) (h1 : TEx X W u1 t1) (h2 : TEx X W u2 t2) (hi : -1152921504606846976 ≤ t1.int ∧ t1.int ≤ 1152921504606846976) : Calls Tryz.prog 70 #[u1, u2] W (R2 X W (if t1.kind = 1 ∧ t2.kind = 6 ∧ 1 ≤ t1.int ∧ t1.int ≤ (t2.items.length : Nat) then (t2.items.getD (t1.int - 1).toNat tZ, []) else (tZ, sArg))) := by
  obtain ⟨A1, n1, c1, rfl, hn1⟩ := h1.form
  have H1 := Lib.hid h1
  have HN1 := Lib.hid hn1
  obtain ⟨A2, n2, c2, rfl, hn2⟩ := h2.form
  have H2 := Lib.hid h2
  have HN2 := Lib.hid hn2
  have HX := Lib.hid hX
  clear h1 hn1 h2 hn2 hX
  have hl2 : t2.items.length = n2 := HN2.out
  have hn9 : n2 ≤ 9223372036854775807 := by rw [← hl2]; exact H2.out.val.len
  by_cases k1 : t1.kind = 1
  · by_cases k2 : t2.kind = 6
    · by_cases k3 : t1.int < 1
      · rw [if_neg (fun h => by omega)]
        have hd : decide (t1.int < 1) = true := by simp; omega
        clear hl2 hn9 k3
        have Ik1 := Lib.hid k1
        have Ik2 := Lib.hid k2
        clear k1 k2
        go_enter Tryz.func70, Tryz.ntmps70
        go_upto_region 1 with (fail)
        refine wp_world (fun V => Below W.heap.size W V ∧ Blk V (W.heap.size) 26 #[.int .i64 t1.kind, .int .i64 t1.int, .string ⟨t1.name.toArray⟩, .slice A1 n1 c1] ∧ Blk V (W.heap.size + 1) 26 #[.int .i64 t2.kind, .int .i64 t2.int, .string ⟨t2.name.toArray⟩, .slice A2 n2 c2] ∧ Blk V (W.heap.size + 1 + 1) 26 #[.int .i64 0, .int .i64 0, .string ⟨#[]⟩, .slice none 0 0]) ⟨below_step (below_step (below_alloc _ _) (below_alloc _ _)) (below_alloc _ _), (((Blk.newAt (by first | (with_reducible rfl) | simp)).alloc _).alloc _), ((Blk.newAt (by first | (with_reducible rfl) | simp)).alloc _), (Blk.newAt (by first | (with_reducible rfl) | simp))⟩ ?_
        rintro V ⟨hb, hq1, hq2, hz⟩
        have HB := Lib.hid hb
        have HKq1 := Lib.hid hq1
        have HKq2 := Lib.hid hq2
        have HKz := Lib.hid hz
        have q10 := HKq1.out.cell 0
        have q11 := HKq1.out.cell 1
        have q12 := HKq1.out.cell 2
        have q13 := HKq1.out.cell 3
        have q1f0 := HKq1.out.frozen 0
        have q1f1 := HKq1.out.frozen 1
        have q1f2 := HKq1.out.frozen 2
        have q1f3 := HKq1.out.frozen 3
        have q20 := HKq2.out.cell 0
        have q21 := HKq2.out.cell 1
        have q22 := HKq2.out.cell 2
        have q23 := HKq2.out.cell 3
        have q2f0 := HKq2.out.frozen 0
        have q2f1 := HKq2.out.frozen 1
        have q2f2 := HKq2.out.frozen 2
        have q2f3 := HKq2.out.frozen 3
        have z0 := HKz.out.cell 0
        have z1 := HKz.out.cell 1
        have z2 := HKz.out.cell 2
        have z3 := HKz.out.cell 3
        have zf0 := HKz.out.frozen 0
        have zf1 := HKz.out.frozen 1
        have zf2 := HKz.out.frozen 2
        have zf3 := HKz.out.frozen 3
        clear hb hq1 hq2 hz
        have k1 := Ik1.out
        have k2 := Ik2.out
        go_wp2_with (go_at_call 20; refine (wrong_v (fun k => X k ∨ k = W.heap.size + 1 + 1) sArg V).mono ?_; rintro e w1 ⟨v, rfl, hT, hb1⟩; obtain ⟨A9, n9, c9, rfl, hn⟩ := hT.form; have HT := Lib.hid hT; have HKq1 := Lib.hid (HKq1.out.keep hb1); have HKq2 := Lib.hid (HKq2.out.keep hb1); have HKz := Lib.hid (HKz.out.keep hb1); have HB := Lib.hid (below_step HB.out hb1); have q10 := HKq1.out.cell 0; have q11 := HKq1.out.cell 1; have q12 := HKq1.out.cell 2; have q13 := HKq1.out.cell 3; have q1f0 := HKq1.out.frozen 0; have q1f1 := HKq1.out.frozen 1; have q1f2 := HKq1.out.frozen 2; have q1f3 := HKq1.out.frozen 3; have q20 := HKq2.out.cell 0; have q21 := HKq2.out.cell 1; have q22 := HKq2.out.cell 2; have q23 := HKq2.out.cell 3; have q2f0 := HKq2.out.frozen 0; have q2f1 := HKq2.out.frozen 1; have q2f2 := HKq2.out.frozen 2; have q2f3 := HKq2.out.frozen 3; have z0 := HKz.out.cell 0; have z1 := HKz.out.cell 1; have z2 := HKz.out.cell 2; have z3 := HKz.out.cell 3; have zf0 := HKz.out.frozen 0; have zf1 := HKz.out.frozen 1; have zf2 := HKz.out.frozen 2; have zf3 := HKz.out.frozen 3; clear hn hT hb1)
        have hB2 := HKz.out.set4 (.int .i64 (tZ).kind) (.int .i64 (tZ).int) (.string ⟨(tZ).name.toArray⟩) (.slice A9 n9 c9)
        have y0 := hB2.cell 0
        have y1 := hB2.cell 1
        have y2 := hB2.cell 2
        have y3 := hB2.cell 3
        refine bodyPost_ret (v := .tuple #[.agg #[.int .i64 (tZ).kind, .int .i64 (tZ).int, .string ⟨(tZ).name.toArray⟩, .slice A9 n9 c9], .string ⟨(sArg).toArray⟩]) (by simp [results, Tryz.results70, go_sem, y0, y1, y2, y3]) rfl ?_
        obtain ⟨g1, g2⟩ := fin4 (X := X) HB.out (by omega) HT.out
        exact ⟨_, rfl, g1, g2⟩
      · by_cases k4 : (n2 : Int) < t1.int
        · rw [if_neg (fun h => by omega)]
          have hd : decide (t1.int < 1) = false := by simp; omega
          have hd2 : decide ((n2 : Int) < t1.int) = true := by simp; omega
          clear hl2 hn9 k3 k4
          have Ik1 := Lib.hid k1
          have Ik2 := Lib.hid k2
          clear k1 k2
          go_enter Tryz.func70, Tryz.ntmps70
          go_upto_region 1 with (fail)
          refine wp_world (fun V => Below W.heap.size W V ∧ Blk V (W.heap.size) 26 #[.int .i64 t1.kind, .int .i64 t1.int, .string ⟨t1.name.toArray⟩, .slice A1 n1 c1] ∧ Blk V (W.heap.size + 1) 26 #[.int .i64 t2.kind, .int .i64 t2.int, .string ⟨t2.name.toArray⟩, .slice A2 n2 c2] ∧ Blk V (W.heap.size + 1 + 1) 26 #[.int .i64 0, .int .i64 0, .string ⟨#[]⟩, .slice none 0 0]) ⟨below_step (below_step (below_alloc _ _) (below_alloc _ _)) (below_alloc _ _), (((Blk.newAt (by first | (with_reducible rfl) | simp)).alloc _).alloc _), ((Blk.newAt (by first | (with_reducible rfl) | simp)).alloc _), (Blk.newAt (by first | (with_reducible rfl) | simp))⟩ ?_
          rintro V ⟨hb, hq1, hq2, hz⟩
          have HB := Lib.hid hb
          have HKq1 := Lib.hid hq1
          have HKq2 := Lib.hid hq2
          have HKz := Lib.hid hz
          have q10 := HKq1.out.cell 0
          have q11 := HKq1.out.cell 1
          have q12 := HKq1.out.cell 2
          have q13 := HKq1.out.cell 3
          have q1f0 := HKq1.out.frozen 0
          have q1f1 := HKq1.out.frozen 1
          have q1f2 := HKq1.out.frozen 2
          have q1f3 := HKq1.out.frozen 3
          have q20 := HKq2.out.cell 0
          have q21 := HKq2.out.cell 1
          have q22 := HKq2.out.cell 2
          have q23 := HKq2.out.cell 3
          have q2f0 := HKq2.out.frozen 0
          have q2f1 := HKq2.out.frozen 1
          have q2f2 := HKq2.out.frozen 2
          have q2f3 := HKq2.out.frozen 3
          have z0 := HKz.out.cell 0
          have z1 := HKz.out.cell 1
          have z2 := HKz.out.cell 2
          have z3 := HKz.out.cell 3
          have zf0 := HKz.out.frozen 0
          have zf1 := HKz.out.frozen 1
          have zf2 := HKz.out.frozen 2
          have zf3 := HKz.out.frozen 3
          clear hb hq1 hq2 hz
          have k1 := Ik1.out
          have k2 := Ik2.out
          go_wp2_with (go_at_call 20; refine (wrong_v (fun k => X k ∨ k = W.heap.size + 1 + 1) sArg V).mono ?_; rintro e w1 ⟨v, rfl, hT, hb1⟩; obtain ⟨A9, n9, c9, rfl, hn⟩ := hT.form; have HT := Lib.hid hT; have HKq1 := Lib.hid (HKq1.out.keep hb1); have HKq2 := Lib.hid (HKq2.out.keep hb1); have HKz := Lib.hid (HKz.out.keep hb1); have HB := Lib.hid (below_step HB.out hb1); have q10 := HKq1.out.cell 0; have q11 := HKq1.out.cell 1; have q12 := HKq1.out.cell 2; have q13 := HKq1.out.cell 3; have q1f0 := HKq1.out.frozen 0; have q1f1 := HKq1.out.frozen 1; have q1f2 := HKq1.out.frozen 2; have q1f3 := HKq1.out.frozen 3; have q20 := HKq2.out.cell 0; have q21 := HKq2.out.cell 1; have q22 := HKq2.out.cell 2; have q23 := HKq2.out.cell 3; have q2f0 := HKq2.out.frozen 0; have q2f1 := HKq2.out.frozen 1; have q2f2 := HKq2.out.frozen 2; have q2f3 := HKq2.out.frozen 3; have z0 := HKz.out.cell 0; have z1 := HKz.out.cell 1; have z2 := HKz.out.cell 2; have z3 := HKz.out.cell 3; have zf0 := HKz.out.frozen 0; have zf1 := HKz.out.frozen 1; have zf2 := HKz.out.frozen 2; have zf3 := HKz.out.frozen 3; clear hn hT hb1)
          have hB2 := HKz.out.set4 (.int .i64 (tZ).kind) (.int .i64 (tZ).int) (.string ⟨(tZ).name.toArray⟩) (.slice A9 n9 c9)
          have y0 := hB2.cell 0
          have y1 := hB2.cell 1
          have y2 := hB2.cell 2
          have y3 := hB2.cell 3
          refine bodyPost_ret (v := .tuple #[.agg #[.int .i64 (tZ).kind, .int .i64 (tZ).int, .string ⟨(tZ).name.toArray⟩, .slice A9 n9 c9], .string ⟨(sArg).toArray⟩]) (by simp [results, Tryz.results70, go_sem, y0, y1, y2, y3]) rfl ?_
          obtain ⟨g1, g2⟩ := fin4 (X := X) HB.out (by omega) HT.out
          exact ⟨_, rfl, g1, g2⟩
        · rw [if_pos ⟨k1, k2, by omega, by omega⟩]
          obtain ⟨j, hj⟩ : ∃ j : Nat, t1.int = (j : Int) + 1 := ⟨(t1.int - 1).toNat, by omega⟩
          have hjl : j < t2.items.length := by omega
          rw [show (t1.int - 1).toNat = j by omega, show t2.items.getD j tZ = t2.items[j] by simp [List.getD, hjl]]
          have hw : wrap64 ((j : Int) + 1 - 1) = (j : Int) := by unfold wrap64; omega
          have hjn : j < n2 := by omega
          have hd2 : decide ((n2 : Int) < (j : Int) + 1) = false := by simp; omega
          have hd3 : ¬ n2 < j + 1 := by omega
          obtain ⟨ib, io, IA, im, ic, hA, e0, e1, e2, e3, hin, hIT⟩ := (H2.out.up (p := W.heap.size + 1 + 1) (Below.refl _ _) (by omega)).items.item hjl
          have HIT := Lib.hid hIT
          have HI0 := Lib.hid e0
          have HI1 := Lib.hid e1
          have HI2 := Lib.hid e2
          have HI3 := Lib.hid e3
          clear e0 e1 e2 e3 hIT hin hl2 hn9 k3 k4
          have Ik1 := Lib.hid k1
          have Ik2 := Lib.hid k2
          have IhA := Lib.hid hA
          have Ihjn := Lib.hid hjn
          have Ihw := Lib.hid hw
          have Ihj := Lib.hid hj
          clear k1 k2 hA hjn hw hj
          go_enter Tryz.func70, Tryz.ntmps70
          go_upto_region 1 with (fail)
          refine wp_world (fun V => Below W.heap.size W V ∧ Blk V (W.heap.size) 26 #[.int .i64 t1.kind, .int .i64 t1.int, .string ⟨t1.name.toArray⟩, .slice A1 n1 c1] ∧ Blk V (W.heap.size + 1) 26 #[.int .i64 t2.kind, .int .i64 t2.int, .string ⟨t2.name.toArray⟩, .slice A2 n2 c2] ∧ Blk V (W.heap.size + 1 + 1) 26 #[.int .i64 0, .int .i64 0, .string ⟨#[]⟩, .slice none 0 0]) ⟨below_step (below_step (below_alloc _ _) (below_alloc _ _)) (below_alloc _ _), (((Blk.newAt (by first | (with_reducible rfl) | simp)).alloc _).alloc _), ((Blk.newAt (by first | (with_reducible rfl) | simp)).alloc _), (Blk.newAt (by first | (with_reducible rfl) | simp))⟩ ?_
          rintro V ⟨hb, hq1, hq2, hz⟩
          have HB := Lib.hid hb
          have HKq1 := Lib.hid hq1
          have HKq2 := Lib.hid hq2
          have HKz := Lib.hid hz
          have q10 := HKq1.out.cell 0
          have q11 := HKq1.out.cell 1
          have q12 := HKq1.out.cell 2
          have q13 := HKq1.out.cell 3
          have q1f0 := HKq1.out.frozen 0
          have q1f1 := HKq1.out.frozen 1
          have q1f2 := HKq1.out.frozen 2
          have q1f3 := HKq1.out.frozen 3
          have q20 := HKq2.out.cell 0
          have q21 := HKq2.out.cell 1
          have q22 := HKq2.out.cell 2
          have q23 := HKq2.out.cell 3
          have q2f0 := HKq2.out.frozen 0
          have q2f1 := HKq2.out.frozen 1
          have q2f2 := HKq2.out.frozen 2
          have q2f3 := HKq2.out.frozen 3
          have z0 := HKz.out.cell 0
          have z1 := HKz.out.cell 1
          have z2 := HKz.out.cell 2
          have z3 := HKz.out.cell 3
          have zf0 := HKz.out.frozen 0
          have zf1 := HKz.out.frozen 1
          have zf2 := HKz.out.frozen 2
          have zf3 := HKz.out.frozen 3
          clear hb hq1 hq2 hz
          have k1 := Ik1.out
          have k2 := Ik2.out
          have hA := IhA.out
          have hjn := Ihjn.out
          have hw := Ihw.out
          have hj := Ihj.out
          have hlt : ib < W.heap.size := World.block_lt_of_cell? W _ HI0.out
          have i0 := (HB.out.cell (p := ⟨ib, io + j * 4, none⟩) hlt).trans HI0.out
          have i1 := (HB.out.cell (p := ⟨ib, io + j * 4 + 1, none⟩) hlt).trans HI1.out
          have i2 := (HB.out.cell (p := ⟨ib, io + j * 4 + 2, none⟩) hlt).trans HI2.out
          have i3 := (HB.out.cell (p := ⟨ib, io + j * 4 + 3, none⟩) hlt).trans HI3.out
          clear hlt
          go_wp2
          have HT := Lib.hid (HIT.out.below HB.out)
          have hB2 := HKz.out.set4 (.int .i64 (t2.items[j]).kind) (.int .i64 (t2.items[j]).int) (.string ⟨(t2.items[j]).name.toArray⟩) (.slice IA im ic)
          have y0 := hB2.cell 0
          have y1 := hB2.cell 1
          have y2 := hB2.cell 2
          have y3 := hB2.cell 3
          refine bodyPost_ret (v := .tuple #[.agg #[.int .i64 (t2.items[j]).kind, .int .i64 (t2.items[j]).int, .string ⟨(t2.items[j]).name.toArray⟩, .slice IA im ic], .string ⟨(([] : List UInt8)).toArray⟩]) (by simp [results, Tryz.results70, go_sem, y0, y1, y2, y3]) rfl ?_
          obtain ⟨g1, g2⟩ := fin4 (X := X) HB.out (by omega) HT.out
          exact ⟨_, rfl, g1, g2⟩
    · rw [if_neg (fun h => k2 h.2.1)]
      clear hl2 hn9
      have Ik1 := Lib.hid k1
      have Ik2 := Lib.hid k2
      clear k1 k2
      go_enter Tryz.func70, Tryz.ntmps70
      go_upto_region 1 with (fail)
      refine wp_world (fun V => Below W.heap.size W V ∧ Blk V (W.heap.size) 26 #[.int .i64 t1.kind, .int .i64 t1.int, .string ⟨t1.name.toArray⟩, .slice A1 n1 c1] ∧ Blk V (W.heap.size + 1) 26 #[.int .i64 t2.kind, .int .i64 t2.int, .string ⟨t2.name.toArray⟩, .slice A2 n2 c2] ∧ Blk V (W.heap.size + 1 + 1) 26 #[.int .i64 0, .int .i64 0, .string ⟨#[]⟩, .slice none 0 0]) ⟨below_step (below_step (below_alloc _ _) (below_alloc _ _)) (below_alloc _ _), (((Blk.newAt (by first | (with_reducible rfl) | simp)).alloc _).alloc _), ((Blk.newAt (by first | (with_reducible rfl) | simp)).alloc _), (Blk.newAt (by first | (with_reducible rfl) | simp))⟩ ?_
      rintro V ⟨hb, hq1, hq2, hz⟩
      have HB := Lib.hid hb
      have HKq1 := Lib.hid hq1
      have HKq2 := Lib.hid hq2
      have HKz := Lib.hid hz
      have q10 := HKq1.out.cell 0
      have q11 := HKq1.out.cell 1
      have q12 := HKq1.out.cell 2
      have q13 := HKq1.out.cell 3
      have q1f0 := HKq1.out.frozen 0
      have q1f1 := HKq1.out.frozen 1
      have q1f2 := HKq1.out.frozen 2
      have q1f3 := HKq1.out.frozen 3
      have q20 := HKq2.out.cell 0
      have q21 := HKq2.out.cell 1
      have q22 := HKq2.out.cell 2
      have q23 := HKq2.out.cell 3
      have q2f0 := HKq2.out.frozen 0
      have q2f1 := HKq2.out.frozen 1
      have q2f2 := HKq2.out.frozen 2
      have q2f3 := HKq2.out.frozen 3
      have z0 := HKz.out.cell 0
      have z1 := HKz.out.cell 1
      have z2 := HKz.out.cell 2
      have z3 := HKz.out.cell 3
      have zf0 := HKz.out.frozen 0
      have zf1 := HKz.out.frozen 1
      have zf2 := HKz.out.frozen 2
      have zf3 := HKz.out.frozen 3
      clear hb hq1 hq2 hz
      have k1 := Ik1.out
      have k2 := Ik2.out
      go_wp2_with (go_at_call 20; refine (wrong_v (fun k => X k ∨ k = W.heap.size + 1 + 1) sArg V).mono ?_; rintro e w1 ⟨v, rfl, hT, hb1⟩; obtain ⟨A9, n9, c9, rfl, hn⟩ := hT.form; have HT := Lib.hid hT; have HKq1 := Lib.hid (HKq1.out.keep hb1); have HKq2 := Lib.hid (HKq2.out.keep hb1); have HKz := Lib.hid (HKz.out.keep hb1); have HB := Lib.hid (below_step HB.out hb1); have q10 := HKq1.out.cell 0; have q11 := HKq1.out.cell 1; have q12 := HKq1.out.cell 2; have q13 := HKq1.out.cell 3; have q1f0 := HKq1.out.frozen 0; have q1f1 := HKq1.out.frozen 1; have q1f2 := HKq1.out.frozen 2; have q1f3 := HKq1.out.frozen 3; have q20 := HKq2.out.cell 0; have q21 := HKq2.out.cell 1; have q22 := HKq2.out.cell 2; have q23 := HKq2.out.cell 3; have q2f0 := HKq2.out.frozen 0; have q2f1 := HKq2.out.frozen 1; have q2f2 := HKq2.out.frozen 2; have q2f3 := HKq2.out.frozen 3; have z0 := HKz.out.cell 0; have z1 := HKz.out.cell 1; have z2 := HKz.out.cell 2; have z3 := HKz.out.cell 3; have zf0 := HKz.out.frozen 0; have zf1 := HKz.out.frozen 1; have zf2 := HKz.out.frozen 2; have zf3 := HKz.out.frozen 3; clear hn hT hb1)
      have hB2 := HKz.out.set4 (.int .i64 (tZ).kind) (.int .i64 (tZ).int) (.string ⟨(tZ).name.toArray⟩) (.slice A9 n9 c9)
      have y0 := hB2.cell 0
      have y1 := hB2.cell 1
      have y2 := hB2.cell 2
      have y3 := hB2.cell 3
      refine bodyPost_ret (v := .tuple #[.agg #[.int .i64 (tZ).kind, .int .i64 (tZ).int, .string ⟨(tZ).name.toArray⟩, .slice A9 n9 c9], .string ⟨(sArg).toArray⟩]) (by simp [results, Tryz.results70, go_sem, y0, y1, y2, y3]) rfl ?_
      obtain ⟨g1, g2⟩ := fin4 (X := X) HB.out (by omega) HT.out
      exact ⟨_, rfl, g1, g2⟩
  · rw [if_neg (fun h => k1 h.1)]
    clear hl2 hn9
    have Ik1 := Lib.hid k1
    clear k1
    go_enter Tryz.func70, Tryz.ntmps70
    go_upto_region 1 with (fail)
    refine wp_world (fun V => Below W.heap.size W V ∧ Blk V (W.heap.size) 26 #[.int .i64 t1.kind, .int .i64 t1.int, .string ⟨t1.name.toArray⟩, .slice A1 n1 c1] ∧ Blk V (W.heap.size + 1) 26 #[.int .i64 t2.kind, .int .i64 t2.int, .string ⟨t2.name.toArray⟩, .slice A2 n2 c2] ∧ Blk V (W.heap.size + 1 + 1) 26 #[.int .i64 0, .int .i64 0, .string ⟨#[]⟩, .slice none 0 0]) ⟨below_step (below_step (below_alloc _ _) (below_alloc _ _)) (below_alloc _ _), (((Blk.newAt (by first | (with_reducible rfl) | simp)).alloc _).alloc _), ((Blk.newAt (by first | (with_reducible rfl) | simp)).alloc _), (Blk.newAt (by first | (with_reducible rfl) | simp))⟩ ?_
    rintro V ⟨hb, hq1, hq2, hz⟩
    have HB := Lib.hid hb
    have HKq1 := Lib.hid hq1
    have HKq2 := Lib.hid hq2
    have HKz := Lib.hid hz
    have q10 := HKq1.out.cell 0
    have q11 := HKq1.out.cell 1
    have q12 := HKq1.out.cell 2
    have q13 := HKq1.out.cell 3
    have q1f0 := HKq1.out.frozen 0
    have q1f1 := HKq1.out.frozen 1
    have q1f2 := HKq1.out.frozen 2
    have q1f3 := HKq1.out.frozen 3
    have q20 := HKq2.out.cell 0
    have q21 := HKq2.out.cell 1
    have q22 := HKq2.out.cell 2
    have q23 := HKq2.out.cell 3
    have q2f0 := HKq2.out.frozen 0
    have q2f1 := HKq2.out.frozen 1
    have q2f2 := HKq2.out.frozen 2
    have q2f3 := HKq2.out.frozen 3
    have z0 := HKz.out.cell 0
    have z1 := HKz.out.cell 1
    have z2 := HKz.out.cell 2
    have z3 := HKz.out.cell 3
    have zf0 := HKz.out.frozen 0
    have zf1 := HKz.out.frozen 1
    have zf2 := HKz.out.frozen 2
    have zf3 := HKz.out.frozen 3
    clear hb hq1 hq2 hz
    have k1 := Ik1.out
    go_wp2_with (go_at_call 20; refine (wrong_v (fun k => X k ∨ k = W.heap.size + 1 + 1) sArg V).mono ?_; rintro e w1 ⟨v, rfl, hT, hb1⟩; obtain ⟨A9, n9, c9, rfl, hn⟩ := hT.form; have HT := Lib.hid hT; have HKq1 := Lib.hid (HKq1.out.keep hb1); have HKq2 := Lib.hid (HKq2.out.keep hb1); have HKz := Lib.hid (HKz.out.keep hb1); have HB := Lib.hid (below_step HB.out hb1); have q10 := HKq1.out.cell 0; have q11 := HKq1.out.cell 1; have q12 := HKq1.out.cell 2; have q13 := HKq1.out.cell 3; have q1f0 := HKq1.out.frozen 0; have q1f1 := HKq1.out.frozen 1; have q1f2 := HKq1.out.frozen 2; have q1f3 := HKq1.out.frozen 3; have q20 := HKq2.out.cell 0; have q21 := HKq2.out.cell 1; have q22 := HKq2.out.cell 2; have q23 := HKq2.out.cell 3; have q2f0 := HKq2.out.frozen 0; have q2f1 := HKq2.out.frozen 1; have q2f2 := HKq2.out.frozen 2; have q2f3 := HKq2.out.frozen 3; have z0 := HKz.out.cell 0; have z1 := HKz.out.cell 1; have z2 := HKz.out.cell 2; have z3 := HKz.out.cell 3; have zf0 := HKz.out.frozen 0; have zf1 := HKz.out.frozen 1; have zf2 := HKz.out.frozen 2; have zf3 := HKz.out.frozen 3; clear hn hT hb1)
    have hB2 := HKz.out.set4 (.int .i64 (tZ).kind) (.int .i64 (tZ).int) (.string ⟨(tZ).name.toArray⟩) (.slice A9 n9 c9)
    have y0 := hB2.cell 0
    have y1 := hB2.cell 1
    have y2 := hB2.cell 2
    have y3 := hB2.cell 3
    refine bodyPost_ret (v := .tuple #[.agg #[.int .i64 (tZ).kind, .int .i64 (tZ).int, .string ⟨(tZ).name.toArray⟩, .slice A9 n9 c9], .string ⟨(sArg).toArray⟩]) (by simp [results, Tryz.results70, go_sem, y0, y1, y2, y3]) rfl ?_
    obtain ⟨g1, g2⟩ := fin4 (X := X) HB.out (by omega) HT.out
    exact ⟨_, rfl, g1, g2⟩
end
end Go.Proofs.YtbpnlpjbjmojfaaGreat
