/- Arith (layer 14), the document's answer: Do. Written by argenrj.py. -/
import Derived.Test.YtbpnlpjbjmojfaaGreatArRi
namespace Go.Proofs.YtbpnlpjbjmojfaaGreat
open Go.RowKit
set_option linter.unusedVariables false
section
variable {W w V V' : World} {u u1 u2 : Value} {t t1 t2 : TV}

set_option maxRecDepth 100000 in
set_option maxHeartbeats 1000000 in
theorem rdo_v {X : Nat → Prop} (hX : ∀ k, X k → k < W.heap.size) {s : List UInt8} {l : List TV} (hL : LEx X W u l) (hG : ∀ t ∈ l, GoodT t) : Calls Tryz.prog 7 #[.string ⟨s.toArray⟩, u] W (R2 X W (doP s l)) := by
  obtain ⟨A1, n1, c1, rfl, hn1, hnc, hcm⟩ := hL.form
  have HL := Lib.hid hL
  have HX := Lib.hid hX
  have HN1 := Lib.hid hn1
  have HG := Lib.hid hG
  clear hL hX hG hn1 hnc hcm
  by_cases hb : s = [123, 125]
  · subst hb
    show Calls _ _ _ _ (R2 X W (fitP (tT l)))
    go_enter Tryz.func7, Tryz.ntmps7
    go_upto_region 1 with (fail)
    refine wp_world (fun V => Below W.heap.size W V ∧ Blk V (W.heap.size) 26 #[.int .i64 0, .int .i64 0, .string ⟨#[]⟩, .slice none 0 0]) ⟨below_alloc _ _, (Blk.newAt (by first | (with_reducible rfl) | simp))⟩ ?_
    rintro V ⟨hb, hz⟩
    have HB := Lib.hid hb
    have HKz := Lib.hid hz
    have z0 := HKz.out.cell 0
    have z1 := HKz.out.cell 1
    have z2 := HKz.out.cell 2
    have z3 := HKz.out.cell 3
    have zf0 := HKz.out.frozen 0
    have zf1 := HKz.out.frozen 1
    have zf2 := HKz.out.frozen 2
    have zf3 := HKz.out.frozen 3
    clear hb hz
    go_wp2_with (first | (go_at_call 22; refine (rtuple_v (X := (fun k => X k ∨ k = W.heap.size)) (HL.out.up HB.out (by omega))).mono ?_; rintro e V ⟨v, rfl, hTc, hb1⟩; obtain ⟨A7, n7, c7, rfl, hn7⟩ := hTc.form; have HTC := Lib.hid hTc; have HKz := Lib.hid (HKz.out.keep hb1); have HB := Lib.hid (below_step HB.out hb1); have z0 := HKz.out.cell 0; have z1 := HKz.out.cell 1; have z2 := HKz.out.cell 2; have z3 := HKz.out.cell 3; have zf0 := HKz.out.frozen 0; have zf1 := HKz.out.frozen 1; have zf2 := HKz.out.frozen 2; have zf3 := HKz.out.frozen 3; clear hb1 hTc hn7) | (go_at_call 21; refine (rfits_v (X := (fun k => X k ∨ k = W.heap.size)) (W := V) (by rintro k (hk | rfl); exact Nat.lt_of_lt_of_le (HX.out k hk) HB.out.size; exact HKz.out.lt) HTC.out).mono ?_; rintro e w1 ⟨v, rfl, hT, hb1⟩; obtain ⟨A9, n9, c9, rfl, hn⟩ := hT.form; have HT := Lib.hid hT; have HKz := Lib.hid (HKz.out.keep hb1); have HB := Lib.hid (below_step HB.out hb1); have z0 := HKz.out.cell 0; have z1 := HKz.out.cell 1; have z2 := HKz.out.cell 2; have z3 := HKz.out.cell 3; have zf0 := HKz.out.frozen 0; have zf1 := HKz.out.frozen 1; have zf2 := HKz.out.frozen 2; have zf3 := HKz.out.frozen 3; clear hn hT hb1))
    have hB2 := HKz.out.set4 (.int .i64 ((fitP (tT l)).1).kind) (.int .i64 ((fitP (tT l)).1).int) (.string ⟨((fitP (tT l)).1).name.toArray⟩) (.slice A9 n9 c9)
    have y0 := hB2.cell 0
    have y1 := hB2.cell 1
    have y2 := hB2.cell 2
    have y3 := hB2.cell 3
    refine bodyPost_ret (v := .tuple #[.agg #[.int .i64 ((fitP (tT l)).1).kind, .int .i64 ((fitP (tT l)).1).int, .string ⟨((fitP (tT l)).1).name.toArray⟩, .slice A9 n9 c9], .string ⟨((fitP (tT l)).2).toArray⟩]) (by simp [results, Tryz.results7, go_sem, y0, y1, y2, y3]) rfl ?_
    obtain ⟨g1, g2⟩ := fin4 (X := X) HB.out (by omega) HT.out
    exact ⟨_, rfl, g1, g2⟩
  · have hsb : (s == [123, 125]) = false := by simpa using hb
    have HSB := Lib.hid hsb
    have HBN := Lib.hid hb
    clear hsb hb
    by_cases h1 : n1 = 1
    · subst h1
      obtain ⟨t, rfl⟩ : ∃ t, l = [t] := List.length_eq_one_iff.1 HN1.out
      rw [doP_one HBN.out]
      obtain ⟨ib, io, IA, im, ic, hA, e0, e1, e2, e3, hin1, hIT⟩ := (HL.out.up (p := W.heap.size) (Below.refl _ _) (Nat.le_refl _)).item (j := 0) (by simp)
      have IhA := Lib.hid hA
      have HI0 := Lib.hid e0
      have HI1 := Lib.hid e1
      have HI2 := Lib.hid e2
      have HI3 := Lib.hid e3
      have HIT := Lib.hid hIT
      clear e0 e1 e2 e3 hIT hin1 hA
      go_enter Tryz.func7, Tryz.ntmps7
      go_upto_region 1 with (fail)
      refine wp_world (fun V => Below W.heap.size W V ∧ Blk V (W.heap.size) 26 #[.int .i64 0, .int .i64 0, .string ⟨#[]⟩, .slice none 0 0]) ⟨below_alloc _ _, (Blk.newAt (by first | (with_reducible rfl) | simp))⟩ ?_
      rintro V ⟨hb, hz⟩
      have HB := Lib.hid hb
      have HKz := Lib.hid hz
      have z0 := HKz.out.cell 0
      have z1 := HKz.out.cell 1
      have z2 := HKz.out.cell 2
      have z3 := HKz.out.cell 3
      have zf0 := HKz.out.frozen 0
      have zf1 := HKz.out.frozen 1
      have zf2 := HKz.out.frozen 2
      have zf3 := HKz.out.frozen 3
      clear hb hz
      have hA := IhA.out
      have hsb := HSB.out
      have hlt : ib < W.heap.size := World.block_lt_of_cell? W _ HI0.out
      have i0 : V.cell? ⟨ib, io, none⟩ = some (.int .i64 t.kind) := (HB.out.cell hlt).trans (by simpa using HI0.out)
      have i1 : V.cell? ⟨ib, io + 1, none⟩ = some (.int .i64 t.int) := (HB.out.cell hlt).trans (by simpa using HI1.out)
      have i2 : V.cell? ⟨ib, io + 2, none⟩ = some (.string ⟨t.name.toArray⟩) := (HB.out.cell hlt).trans (by simpa using HI2.out)
      have i3 : V.cell? ⟨ib, io + 3, none⟩ = some (.slice IA im ic) := (HB.out.cell hlt).trans (by simpa using HI3.out)
      clear hlt
      go_wp2_with (go_at_call 23; refine (rone_v (X := (fun k => X k ∨ k = W.heap.size)) (by rintro k (hk | rfl); exact Nat.lt_of_lt_of_le (HX.out k hk) HB.out.size; exact HKz.out.lt) ((show TEx _ _ _ t from HIT.out).below HB.out) (HG.out t (by simp)) s).mono ?_; rintro e w1 ⟨v, rfl, hT, hb1⟩; obtain ⟨A9, n9, c9, rfl, hn⟩ := hT.form; have HT := Lib.hid hT; have HKz := Lib.hid (HKz.out.keep hb1); have HB := Lib.hid (below_step HB.out hb1); have z0 := HKz.out.cell 0; have z1 := HKz.out.cell 1; have z2 := HKz.out.cell 2; have z3 := HKz.out.cell 3; have zf0 := HKz.out.frozen 0; have zf1 := HKz.out.frozen 1; have zf2 := HKz.out.frozen 2; have zf3 := HKz.out.frozen 3; clear hn hT hb1)
      have hB2 := HKz.out.set4 (.int .i64 ((oneP s t).1).kind) (.int .i64 ((oneP s t).1).int) (.string ⟨((oneP s t).1).name.toArray⟩) (.slice A9 n9 c9)
      have y0 := hB2.cell 0
      have y1 := hB2.cell 1
      have y2 := hB2.cell 2
      have y3 := hB2.cell 3
      refine bodyPost_ret (v := .tuple #[.agg #[.int .i64 ((oneP s t).1).kind, .int .i64 ((oneP s t).1).int, .string ⟨((oneP s t).1).name.toArray⟩, .slice A9 n9 c9], .string ⟨((oneP s t).2).toArray⟩]) (by simp [results, Tryz.results7, go_sem, y0, y1, y2, y3]) rfl ?_
      obtain ⟨g1, g2⟩ := fin4 (X := X) HB.out (by omega) HT.out
      exact ⟨_, rfl, g1, g2⟩
    · by_cases h2 : n1 = 2
      · subst h2
        obtain ⟨t1, t2, rfl⟩ : ∃ t1 t2, l = [t1, t2] := by (have h := HN1.out; match l, h with | [a, b], _ => exact ⟨a, b, rfl⟩)
        rw [doP_two HBN.out]
        clear h1
        obtain ⟨ib, io, IA, im, ic, hA, e0, e1, e2, e3, hin1, hIT⟩ := (HL.out.up (p := W.heap.size) (Below.refl _ _) (Nat.le_refl _)).item (j := 0) (by simp)
        obtain ⟨jb, jo, JA, jm, jc, hA2, g0, g1, g2, g3, hin2, hJT⟩ := (HL.out.up (p := W.heap.size) (Below.refl _ _) (Nat.le_refl _)).item (j := 1) (by simp)
        subst hA
        obtain ⟨rfl, rfl⟩ : ib = jb ∧ io = jo := by simpa using hA2
        have HI0 := Lib.hid e0
        have HI1 := Lib.hid e1
        have HI2 := Lib.hid e2
        have HI3 := Lib.hid e3
        have HJ0 := Lib.hid g0
        have HJ1 := Lib.hid g1
        have HJ2 := Lib.hid g2
        have HJ3 := Lib.hid g3
        have HIT := Lib.hid hIT
        have HJT := Lib.hid hJT
        clear e0 e1 e2 e3 hIT hin1 g0 g1 g2 g3 hJT hin2 hA2
        go_enter Tryz.func7, Tryz.ntmps7
        go_upto_region 1 with (fail)
        refine wp_world (fun V => Below W.heap.size W V ∧ Blk V (W.heap.size) 26 #[.int .i64 0, .int .i64 0, .string ⟨#[]⟩, .slice none 0 0]) ⟨below_alloc _ _, (Blk.newAt (by first | (with_reducible rfl) | simp))⟩ ?_
        rintro V ⟨hb, hz⟩
        have HB := Lib.hid hb
        have HKz := Lib.hid hz
        have z0 := HKz.out.cell 0
        have z1 := HKz.out.cell 1
        have z2 := HKz.out.cell 2
        have z3 := HKz.out.cell 3
        have zf0 := HKz.out.frozen 0
        have zf1 := HKz.out.frozen 1
        have zf2 := HKz.out.frozen 2
        have zf3 := HKz.out.frozen 3
        clear hb hz
        have hsb := HSB.out
        have hlt : ib < W.heap.size := World.block_lt_of_cell? W _ HI0.out
        have i0 : V.cell? ⟨ib, io, none⟩ = some (.int .i64 t1.kind) := (HB.out.cell hlt).trans (by simpa using HI0.out)
        have i1 : V.cell? ⟨ib, io + 1, none⟩ = some (.int .i64 t1.int) := (HB.out.cell hlt).trans (by simpa using HI1.out)
        have i2 : V.cell? ⟨ib, io + 2, none⟩ = some (.string ⟨t1.name.toArray⟩) := (HB.out.cell hlt).trans (by simpa using HI2.out)
        have i3 : V.cell? ⟨ib, io + 3, none⟩ = some (.slice IA im ic) := (HB.out.cell hlt).trans (by simpa using HI3.out)
        have j0 : V.cell? ⟨ib, io + 4, none⟩ = some (.int .i64 t2.kind) := (HB.out.cell hlt).trans (by simpa using HJ0.out)
        have j1 : V.cell? ⟨ib, io + 4 + 1, none⟩ = some (.int .i64 t2.int) := (HB.out.cell hlt).trans (by simpa using HJ1.out)
        have j2 : V.cell? ⟨ib, io + 4 + 2, none⟩ = some (.string ⟨t2.name.toArray⟩) := (HB.out.cell hlt).trans (by simpa using HJ2.out)
        have j3 : V.cell? ⟨ib, io + 4 + 3, none⟩ = some (.slice JA jm jc) := (HB.out.cell hlt).trans (by simpa using HJ3.out)
        clear hlt
        have HC2 : Hid (∀ V' , Below V.heap.size V V' → Calls Tryz.prog 24 #[.string ⟨s.toArray⟩, .agg #[.int .i64 t1.kind, .int .i64 t1.int, .string ⟨t1.name.toArray⟩, .slice IA im ic], .agg #[.int .i64 t2.kind, .int .i64 t2.int, .string ⟨t2.name.toArray⟩, .slice JA jm jc]] V' (R2 (fun k => X k ∨ k = W.heap.size) V' (twoP s t1 t2))) := fun V3 hb3 => rtwo_v (X := (fun k => X k ∨ k = W.heap.size)) (fun k hk => Nat.lt_of_lt_of_le ((show ∀ k, (fun k => X k ∨ k = W.heap.size) k → k < V.heap.size from (by rintro k (hk | rfl); exact Nat.lt_of_lt_of_le (HX.out k hk) HB.out.size; exact HKz.out.lt)) k hk) hb3.size) ((show TEx _ _ _ t1 from HIT.out).below (below_step HB.out hb3)) ((show TEx _ _ _ t2 from HJT.out).below (below_step HB.out hb3)) (HG.out t1 (by simp)) (HG.out t2 (by simp)) s
        clear HI0 HI1 HI2 HI3 HJ0 HJ1 HJ2 HJ3
        go_upto_region 6 with (fail)
        go_region_with (refine (HC2.out _ (Below.refl _ _).drew).mono ?_; rintro e w1 ⟨u, rfl, hT, hb1⟩; obtain ⟨A9, n9, c9, rfl, hn⟩ := hT.form; have HT := Lib.hid hT; have hb1 := (Below.refl _ V).drew.trans (hb1.mono (Nat.le_refl _)); have HKz := Lib.hid (HKz.out.keep hb1); have HB := Lib.hid (below_step HB.out hb1); have z0 := HKz.out.cell 0; have z1 := HKz.out.cell 1; have z2 := HKz.out.cell 2; have z3 := HKz.out.cell 3; have zf0 := HKz.out.frozen 0; have zf1 := HKz.out.frozen 1; have zf2 := HKz.out.frozen 2; have zf3 := HKz.out.frozen 3; clear hn hT hb1)
        all_goals
          go_wp2
          have hB2 := HKz.out.set4 (.int .i64 ((twoP s t1 t2).1).kind) (.int .i64 ((twoP s t1 t2).1).int) (.string ⟨((twoP s t1 t2).1).name.toArray⟩) (.slice A9 n9 c9)
          have y0 := hB2.cell 0
          have y1 := hB2.cell 1
          have y2 := hB2.cell 2
          have y3 := hB2.cell 3
          refine bodyPost_ret (v := .tuple #[.agg #[.int .i64 ((twoP s t1 t2).1).kind, .int .i64 ((twoP s t1 t2).1).int, .string ⟨((twoP s t1 t2).1).name.toArray⟩, .slice A9 n9 c9], .string ⟨((twoP s t1 t2).2).toArray⟩]) (by simp [results, Tryz.results7, go_sem, y0, y1, y2, y3]) rfl ?_
          obtain ⟨g1, g2⟩ := fin4 (X := X) HB.out (by omega) HT.out
          exact ⟨_, rfl, g1, g2⟩
      · rw [doP_other HBN.out (by rw [HN1.out]; exact h1) (by rw [HN1.out]; exact h2)]
        have d1 : ((n1 : Int) == 1) = false := by simp; omega
        have d2 : ((n1 : Int) == 2) = false := by simp; omega
        clear h1 h2
        go_enter Tryz.func7, Tryz.ntmps7
        go_upto_region 1 with (fail)
        refine wp_world (fun V => Below W.heap.size W V ∧ Blk V (W.heap.size) 26 #[.int .i64 0, .int .i64 0, .string ⟨#[]⟩, .slice none 0 0]) ⟨below_alloc _ _, (Blk.newAt (by first | (with_reducible rfl) | simp))⟩ ?_
        rintro V ⟨hb, hz⟩
        have HB := Lib.hid hb
        have HKz := Lib.hid hz
        have z0 := HKz.out.cell 0
        have z1 := HKz.out.cell 1
        have z2 := HKz.out.cell 2
        have z3 := HKz.out.cell 3
        have zf0 := HKz.out.frozen 0
        have zf1 := HKz.out.frozen 1
        have zf2 := HKz.out.frozen 2
        have zf3 := HKz.out.frozen 3
        clear hb hz
        have hsb := HSB.out
        go_wp2
        have hB2 := HKz.out.set4 (.int .i64 0) (.int .i64 0) (.string ⟨#[]⟩) (.slice none 0 0)
        have y0 := hB2.cell 0
        have y1 := hB2.cell 1
        have y2 := hB2.cell 2
        have y3 := hB2.cell 3
        refine bodyPost_ret (v := .tuple #[.agg #[.int .i64 0, .int .i64 0, .string ⟨#[]⟩, .slice none 0 0], .string ⟨(sUnd).toArray⟩]) (by simp [results, Tryz.results7, go_sem, y0, y1, y2, y3, sUnd]) rfl ?_
        obtain ⟨g1, g2⟩ := fin4 (X := X) (p := W.heap.size) HB.out (by omega) (tex_z _ _)
        exact ⟨_, rfl, g1, g2⟩
end
end Go.Proofs.YtbpnlpjbjmojfaaGreat
