/- Arith (layer 14): logic, size, product, the closures. Written by argend.py. -/
import Derived.Test.YtbpnlpjbjmojfaaGreatArC
namespace Go.Proofs.YtbpnlpjbjmojfaaGreat
open Go.RowKit
set_option linter.unusedVariables false
section
variable {W V V' : World} {u u1 u2 : Value} {t t1 t2 : TV}

set_option maxRecDepth 100000 in
set_option maxHeartbeats 1000000 in
theorem logic_v {X : Nat → Prop} (hX : ∀ k, X k → k < W.heap.size) (h1 : TEx X W u1 t1) : Calls Tryz.prog 36 #[u1] W fun e w' => e = .returned (.tuple #[.bool (lgP t1).1, .bool (lgP t1).2]) ∧ Below W.heap.size W w' := by
  obtain ⟨A1, n1, c1, rfl, hn1⟩ := h1.form
  have H1 := Lib.hid h1
  have HN1 := Lib.hid hn1
  have HX := Lib.hid hX
  clear h1 hn1 hX
  have hl : lgP t1 = if t1.kind = 2 then (t1.name == sTrue, t1.name == sTrue || t1.name == sFalse) else (false, false) := rfl
  by_cases hk : t1.kind = 2
  · rw [if_pos hk] at hl
    by_cases h1 : t1.name = sTrue
    · have hn1 : t1.name = [116, 114, 117, 101] := h1
      rw [h1, show (sTrue == sTrue, sTrue == sTrue || sTrue == sFalse) = (true, true) by decide] at hl
      have Hk := Lib.hid hk
      have Hn := Lib.hid hn1
      clear h1 hk hn1
      go_enter Tryz.func36, Tryz.ntmps36
      go_upto_region 1 with (fail)
      refine wp_world (fun V => Below W.heap.size W V ∧ Blk V (W.heap.size) 26 #[.int .i64 t1.kind, .int .i64 t1.int, .string ⟨t1.name.toArray⟩, .slice A1 n1 c1]) ⟨below_alloc _ _, (Blk.newAt (by first | (with_reducible rfl) | simp))⟩ ?_
      rintro V ⟨hb, hq1⟩
      have HB := Lib.hid hb
      have HKq1 := Lib.hid hq1
      have q10 := HKq1.out.cell 0
      have q11 := HKq1.out.cell 1
      have q12 := HKq1.out.cell 2
      have q13 := HKq1.out.cell 3
      have q1f0 := HKq1.out.frozen 0
      have q1f1 := HKq1.out.frozen 1
      have q1f2 := HKq1.out.frozen 2
      have q1f3 := HKq1.out.frozen 3
      clear hb hq1
      have hk := Hk.out
      have hn1 := Hn.out
      go_upto_region 3 with (fail)
      go_quiet (fail)
      go_wp2
      exact bodyPost_ret (v := .tuple #[.bool true, .bool true]) (by simp [results, Tryz.results36, go_sem]) rfl ⟨by first | (rw [hl]; done) | (rw [hl]; rfl), below_drewN HB.out _⟩
    · have hn1 : ¬ t1.name = [116, 114, 117, 101] := h1
      have Hk := Lib.hid hk
      have Hn := Lib.hid hn1
      clear h1 hk hn1
      go_enter Tryz.func36, Tryz.ntmps36
      go_upto_region 1 with (fail)
      refine wp_world (fun V => Below W.heap.size W V ∧ Blk V (W.heap.size) 26 #[.int .i64 t1.kind, .int .i64 t1.int, .string ⟨t1.name.toArray⟩, .slice A1 n1 c1]) ⟨below_alloc _ _, (Blk.newAt (by first | (with_reducible rfl) | simp))⟩ ?_
      rintro V ⟨hb, hq1⟩
      have HB := Lib.hid hb
      have HKq1 := Lib.hid hq1
      have q10 := HKq1.out.cell 0
      have q11 := HKq1.out.cell 1
      have q12 := HKq1.out.cell 2
      have q13 := HKq1.out.cell 3
      have q1f0 := HKq1.out.frozen 0
      have q1f1 := HKq1.out.frozen 1
      have q1f2 := HKq1.out.frozen 2
      have q1f3 := HKq1.out.frozen 3
      clear hb hq1
      have hk := Hk.out
      have hn1 := Hn.out
      go_upto_region 3 with (fail)
      go_quiet (fail)
      go_wp2
      exact bodyPost_ret (v := .tuple #[.bool (t1.name == [116, 114, 117, 101]), .bool (t1.name == [116, 114, 117, 101] || t1.name == [102, 97, 108, 115, 101])]) (by simp [results, Tryz.results36, go_sem]) rfl ⟨by first | (rw [hl]; done) | (rw [hl]; rfl), below_drewN HB.out _⟩
  · rw [if_neg hk] at hl
    have Hk := Lib.hid hk
    clear hk
    go_enter Tryz.func36, Tryz.ntmps36
    go_upto_region 1 with (fail)
    refine wp_world (fun V => Below W.heap.size W V ∧ Blk V (W.heap.size) 26 #[.int .i64 t1.kind, .int .i64 t1.int, .string ⟨t1.name.toArray⟩, .slice A1 n1 c1]) ⟨below_alloc _ _, (Blk.newAt (by first | (with_reducible rfl) | simp))⟩ ?_
    rintro V ⟨hb, hq1⟩
    have HB := Lib.hid hb
    have HKq1 := Lib.hid hq1
    have q10 := HKq1.out.cell 0
    have q11 := HKq1.out.cell 1
    have q12 := HKq1.out.cell 2
    have q13 := HKq1.out.cell 3
    have q1f0 := HKq1.out.frozen 0
    have q1f1 := HKq1.out.frozen 1
    have q1f2 := HKq1.out.frozen 2
    have q1f3 := HKq1.out.frozen 3
    clear hb hq1
    have hk := Hk.out
    go_wp2
    exact bodyPost_ret (v := .tuple #[.bool false, .bool false]) (by simp [results, Tryz.results36, go_sem]) rfl ⟨by first | (rw [hl]; done) | (rw [hl]; rfl), HB.out⟩
set_option maxRecDepth 100000 in
set_option maxHeartbeats 1000000 in
theorem asize_v (n : Int) (h0 : -1152921504606846976 ≤ n) (h9 : n ≤ 1152921504606846976) (W : World) : Calls Tryz.prog 94 #[.int .i64 n] W fun e w' => e = .returned (.int .u64 (n.natAbs : Nat)) ∧ W = w' := by
  by_cases hn : n < 0
  · have hd : decide (n < 0) = true := by simp [hn]
    have hw : wrap64 (-n) = -n := by unfold wrap64; omega
    go_enter Tryz.func94, Tryz.ntmps94
    go_wp2
    exact bodyPost_ret (v := .int .u64 (-n)) (by simp [results, Tryz.results94, go_sem]) rfl ⟨by congr 2; omega, rfl⟩
  · have hd : decide (n < 0) = false := by simp; omega
    go_enter Tryz.func94, Tryz.ntmps94
    go_wp2
    exact bodyPost_ret (v := .int .u64 n) (by simp [results, Tryz.results94, go_sem]) rfl ⟨by congr 2; omega, rfl⟩
set_option maxRecDepth 100000 in
set_option maxHeartbeats 1000000 in
theorem product_v {X : Nat → Prop} (hX : ∀ k, X k → k < W.heap.size) (a b : Int) (ha : -1152921504606846976 ≤ a ∧ a ≤ 1152921504606846976) (hb : -1152921504606846976 ≤ b ∧ b ≤ 1152921504606846976) : Calls Tryz.prog 54 #[.int .i64 a, .int .i64 b] W (R2 X W (numP (a * b))) := by
  have HX := Lib.hid hX
  have HA := Lib.hid ha
  have HBB := Lib.hid hb
  obtain ⟨hi, lo, hq, hlo, HM⟩ : ∃ hi lo : Nat, hi * 18446744073709551616 + lo = a.natAbs * b.natAbs ∧ lo < 18446744073709551616 ∧ ∀ w, Calls Tryz.prog 93 #[.int .u64 (a.natAbs : Nat), .int .u64 (b.natAbs : Nat)] w fun e w' => e = .returned (.tuple #[.int .u64 (hi : Nat), .int .u64 (lo : Nat)]) ∧ w' = w := ⟨a.natAbs * b.natAbs / 18446744073709551616, a.natAbs * b.natAbs % 18446744073709551616, by omega, by omega, fun w => Tryz.bits_Mul64 a.natAbs b.natAbs (by omega) (by omega) w⟩
  have hm : (a * b).natAbs = a.natAbs * b.natAbs := Int.natAbs_mul a b
  obtain ⟨m, hmm⟩ : ∃ m, m = a * b := ⟨_, rfl⟩
  rw [← hmm] at hm ⊢
  rw [← hm] at hq
  by_cases c1 : 0 < hi
  · have hs : numP m = (tZ, sLim) := by unfold numP; rw [if_pos (by omega)]
    rw [hs]
    have hd : decide (0 < hi) = true := by simp; omega
    clear hX ha hb hq hm hlo c1 hs hmm
    go_enter Tryz.func54, Tryz.ntmps54
    go_upto_region 1 with (fail)
    refine wp_world (fun V => Below W.heap.size W V ∧ Blk V (W.heap.size) 26 #[.int .i64 0, .int .i64 0, .string ⟨#[]⟩, .slice none 0 0]) ⟨below_alloc _ _, (Blk.newAt (by first | (with_reducible rfl) | simp))⟩ ?_
    rintro V ⟨hb, hz⟩
    have HB := Lib.hid hb
    have HKz := Lib.hid hz
    have z0 := HKz.out.cell 0
    have z1 := HKz.out.cell 1
    have z2 := HKz.out.cell 2
    have z3 := HKz.out.cell 3
    have zf0 := HKz.out.frozen 0
    have zf1 := HKz.out.frozen 1
    have zf2 := HKz.out.frozen 2
    have zf3 := HKz.out.frozen 3
    clear hb hz
    go_wp2_with (first | (go_at_call 94; first | (with_reducible refine (asize_v a HA.out.1 HA.out.2 _).mono ?_; rintro e w9 ⟨rfl, rfl⟩) | (with_reducible refine (asize_v b HBB.out.1 HBB.out.2 _).mono ?_; rintro e w9 ⟨rfl, rfl⟩)) | (go_at_call 93; refine (HM _).mono ?_; rintro e w9 ⟨rfl, h9⟩; replace h9 := h9.symm; subst h9) | (go_at_call 20; refine (wrong_v (fun k => X k ∨ k = W.heap.size) sLim V).mono ?_; rintro e w1 ⟨v, rfl, hT, hb1⟩; obtain ⟨A9, n9, c9, rfl, hn⟩ := hT.form; have HT := Lib.hid hT; have HKz := Lib.hid (HKz.out.keep hb1); have HB := Lib.hid (below_step HB.out hb1); have z0 := HKz.out.cell 0; have z1 := HKz.out.cell 1; have z2 := HKz.out.cell 2; have z3 := HKz.out.cell 3; have zf0 := HKz.out.frozen 0; have zf1 := HKz.out.frozen 1; have zf2 := HKz.out.frozen 2; have zf3 := HKz.out.frozen 3; clear hn hT hb1))
    have hB2 := HKz.out.set4 (.int .i64 (tZ).kind) (.int .i64 (tZ).int) (.string ⟨(tZ).name.toArray⟩) (.slice A9 n9 c9)
    have y0 := hB2.cell 0
    have y1 := hB2.cell 1
    have y2 := hB2.cell 2
    have y3 := hB2.cell 3
    refine bodyPost_ret (v := .tuple #[.agg #[.int .i64 (tZ).kind, .int .i64 (tZ).int, .string ⟨(tZ).name.toArray⟩, .slice A9 n9 c9], .string ⟨(sLim).toArray⟩]) (by simp [results, Tryz.results54, go_sem, y0, y1, y2, y3]) rfl ?_
    obtain ⟨g1, g2⟩ := fin4 (X := X) HB.out (by omega) HT.out
    exact ⟨_, rfl, g1, g2⟩
  · by_cases c2 : 4611686018427387904 < lo
    · have hs : numP m = (tZ, sLim) := by unfold numP; rw [if_pos (by omega)]
      rw [hs]
      have hd : decide (0 < hi) = false := by simp; omega
      have hd2 : decide ((4611686018427387904 : Int) < (lo : Nat)) = true := by simp; omega
      clear hX ha hb hq hm hlo c1 c2 hs hmm
      go_enter Tryz.func54, Tryz.ntmps54
      go_upto_region 1 with (fail)
      refine wp_world (fun V => Below W.heap.size W V ∧ Blk V (W.heap.size) 26 #[.int .i64 0, .int .i64 0, .string ⟨#[]⟩, .slice none 0 0]) ⟨below_alloc _ _, (Blk.newAt (by first | (with_reducible rfl) | simp))⟩ ?_
      rintro V ⟨hb, hz⟩
      have HB := Lib.hid hb
      have HKz := Lib.hid hz
      have z0 := HKz.out.cell 0
      have z1 := HKz.out.cell 1
      have z2 := HKz.out.cell 2
      have z3 := HKz.out.cell 3
      have zf0 := HKz.out.frozen 0
      have zf1 := HKz.out.frozen 1
      have zf2 := HKz.out.frozen 2
      have zf3 := HKz.out.frozen 3
      clear hb hz
      go_wp2_with (first | (go_at_call 94; first | (with_reducible refine (asize_v a HA.out.1 HA.out.2 _).mono ?_; rintro e w9 ⟨rfl, rfl⟩) | (with_reducible refine (asize_v b HBB.out.1 HBB.out.2 _).mono ?_; rintro e w9 ⟨rfl, rfl⟩)) | (go_at_call 93; refine (HM _).mono ?_; rintro e w9 ⟨rfl, h9⟩; replace h9 := h9.symm; subst h9) | (go_at_call 20; refine (wrong_v (fun k => X k ∨ k = W.heap.size) sLim V).mono ?_; rintro e w1 ⟨v, rfl, hT, hb1⟩; obtain ⟨A9, n9, c9, rfl, hn⟩ := hT.form; have HT := Lib.hid hT; have HKz := Lib.hid (HKz.out.keep hb1); have HB := Lib.hid (below_step HB.out hb1); have z0 := HKz.out.cell 0; have z1 := HKz.out.cell 1; have z2 := HKz.out.cell 2; have z3 := HKz.out.cell 3; have zf0 := HKz.out.frozen 0; have zf1 := HKz.out.frozen 1; have zf2 := HKz.out.frozen 2; have zf3 := HKz.out.frozen 3; clear hn hT hb1))
      have hB2 := HKz.out.set4 (.int .i64 (tZ).kind) (.int .i64 (tZ).int) (.string ⟨(tZ).name.toArray⟩) (.slice A9 n9 c9)
      have y0 := hB2.cell 0
      have y1 := hB2.cell 1
      have y2 := hB2.cell 2
      have y3 := hB2.cell 3
      refine bodyPost_ret (v := .tuple #[.agg #[.int .i64 (tZ).kind, .int .i64 (tZ).int, .string ⟨(tZ).name.toArray⟩, .slice A9 n9 c9], .string ⟨(sLim).toArray⟩]) (by simp [results, Tryz.results54, go_sem, y0, y1, y2, y3]) rfl ?_
      obtain ⟨g1, g2⟩ := fin4 (X := X) HB.out (by omega) HT.out
      exact ⟨_, rfl, g1, g2⟩
    · have hd : decide (0 < hi) = false := by simp; omega
      have hd2 : decide ((4611686018427387904 : Int) < (lo : Nat)) = false := by simp; omega
      have hw : wrap64 (a * b) = m := by rw [← hmm]; unfold wrap64; omega
      clear hX ha hb hq hm hlo c1 c2 hmm
      go_enter Tryz.func54, Tryz.ntmps54
      go_upto_region 1 with (fail)
      refine wp_world (fun V => Below W.heap.size W V ∧ Blk V (W.heap.size) 26 #[.int .i64 0, .int .i64 0, .string ⟨#[]⟩, .slice none 0 0]) ⟨below_alloc _ _, (Blk.newAt (by first | (with_reducible rfl) | simp))⟩ ?_
      rintro V ⟨hb, hz⟩
      have HB := Lib.hid hb
      have HKz := Lib.hid hz
      have z0 := HKz.out.cell 0
      have z1 := HKz.out.cell 1
      have z2 := HKz.out.cell 2
      have z3 := HKz.out.cell 3
      have zf0 := HKz.out.frozen 0
      have zf1 := HKz.out.frozen 1
      have zf2 := HKz.out.frozen 2
      have zf3 := HKz.out.frozen 3
      clear hb hz
      go_wp2_with (first | (go_at_call 94; first | (with_reducible refine (asize_v a HA.out.1 HA.out.2 _).mono ?_; rintro e w9 ⟨rfl, rfl⟩) | (with_reducible refine (asize_v b HBB.out.1 HBB.out.2 _).mono ?_; rintro e w9 ⟨rfl, rfl⟩)) | (go_at_call 93; refine (HM _).mono ?_; rintro e w9 ⟨rfl, h9⟩; replace h9 := h9.symm; subst h9) | (go_at_call 34; refine (number_v (X := (fun k => X k ∨ k = W.heap.size)) (W := V) (by rintro k (hk | rfl); exact Nat.lt_of_lt_of_le (HX.out k hk) HB.out.size; exact HKz.out.lt) m).mono ?_; rintro e w1 ⟨v, rfl, hT, hb1⟩; obtain ⟨A9, n9, c9, rfl, hn⟩ := hT.form; have HT := Lib.hid hT; have HKz := Lib.hid (HKz.out.keep hb1); have HB := Lib.hid (below_step HB.out hb1); have z0 := HKz.out.cell 0; have z1 := HKz.out.cell 1; have z2 := HKz.out.cell 2; have z3 := HKz.out.cell 3; have zf0 := HKz.out.frozen 0; have zf1 := HKz.out.frozen 1; have zf2 := HKz.out.frozen 2; have zf3 := HKz.out.frozen 3; clear hn hT hb1))
      have hB2 := HKz.out.set4 (.int .i64 ((numP m).1).kind) (.int .i64 ((numP m).1).int) (.string ⟨((numP m).1).name.toArray⟩) (.slice A9 n9 c9)
      have y0 := hB2.cell 0
      have y1 := hB2.cell 1
      have y2 := hB2.cell 2
      have y3 := hB2.cell 3
      refine bodyPost_ret (v := .tuple #[.agg #[.int .i64 ((numP m).1).kind, .int .i64 ((numP m).1).int, .string ⟨((numP m).1).name.toArray⟩, .slice A9 n9 c9], .string ⟨((numP m).2).toArray⟩]) (by simp [results, Tryz.results54, go_sem, y0, y1, y2, y3]) rfl ?_
      obtain ⟨g1, g2⟩ := fin4 (X := X) HB.out (by omega) HT.out
      exact ⟨_, rfl, g1, g2⟩
end
end Go.Proofs.YtbpnlpjbjmojfaaGreat
