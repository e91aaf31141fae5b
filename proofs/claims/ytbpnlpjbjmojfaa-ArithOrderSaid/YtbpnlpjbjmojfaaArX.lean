/- Arith (layer 14): yes; ArithOrder. Written by argenx.py. -/
import Derived.Test.YtbpnlpjbjmojfaaArV
namespace Go.Proofs.Ytbpnlpjbjmojfaa
open Go.RowKit
set_option linter.unusedVariables false

theorem same_tr (b : Bool) : ((truT b).cmp (tA sTrue) == 0) = b := by cases b <;> rfl
section
variable {W w V V' : World} {u u1 u2 : Value} {t t1 t2 : TV}

set_option maxRecDepth 100000 in
set_option maxHeartbeats 4000000 in
theorem yes_v (h1 : TVal W u1 t1) (h2 : TVal W u2 t2) (hG1 : GoodT t1) (hG2 : GoodT t2) {name : List UInt8} (hs : name.length ≤ 1000000) {b : Bool} (hr : doP name [t1, t2] = (truT b, [])) : Calls Try.prog 16 #[.string ⟨name.toArray⟩, u1, u2] W fun e w' => e = .returned (.bool b) ∧ Below W.heap.size W w' := by
  have H1 := Lib.hid h1
  have H2 := Lib.hid h2
  obtain ⟨A1, n1, c1, rfl, _⟩ := h1.form
  obtain ⟨A2, n2, c2, rfl, _⟩ := h2.form
  obtain ⟨bs, hbs⟩ : ∃ bs, (if b then sTrue else sFalse) = bs := ⟨_, rfl⟩
  have htb : truT b = tA bs := by rw [← hbs]; rfl
  have HSB := Lib.hid (same_tr b)
  rw [htb] at HSB hr
  have HR := Lib.hid hr
  have HS := Lib.hid hs
  clear h1 h2 hr hs htb hbs
  go_enter Try.func16, Try.ntmps16
  go_upto_region 1 with (fail)
  refine wp_world (fun V => Below W.heap.size W V ∧ Blk V W.heap.size 24 #[.int .i64 t1.kind, .int .i64 t1.int, .string ⟨t1.name.toArray⟩, .slice A1 n1 c1] ∧ Blk V (W.heap.size + 1) 24 #[.int .i64 t2.kind, .int .i64 t2.int, .string ⟨t2.name.toArray⟩, .slice A2 n2 c2]) ⟨below_step (below_alloc _ _) (below_alloc _ _), (Blk.new _ _ _).alloc _, Blk.newAt (by simp)⟩ ?_
  rintro V ⟨hb, hx, hy⟩
  have HB := Lib.hid hb
  have q0 := hx.cell 0
  have q1 := hx.cell 1
  have q2 := hx.cell 2
  have q3 := hx.cell 3
  have r0 := hy.cell 0
  have r1 := hy.cell 1
  have r2 := hy.cell 2
  have r3 := hy.cell 3
  clear hb hx hy
  go_upto_region 2 with (go_at_call 9; refine (do2_at (H1.out.below HB.out) (H2.out.below HB.out) hG1 hG2 HR.out HS.out).mono ?_; rintro e w2 ⟨u, rfl, hT2, hb2⟩; obtain ⟨A6, n6, c6, rfl, hn6⟩ := hT2.form; clear hn6)
  obtain ⟨g6, hg6⟩ : ∃ g, w2.heap.size = g := ⟨_, rfl⟩
  rw [hg6]
  refine wp_world (fun V => Below W.heap.size W V ∧ Blk V g6 24 #[.int .i64 2, .int .i64 0, .string ⟨bs.toArray⟩, .slice A6 n6 c6] ∧ TVal V (.agg #[.int .i64 2, .int .i64 0, .string ⟨bs.toArray⟩, .slice A6 n6 c6]) (tA bs)) ⟨below_step (below_step HB.out hb2) (below_alloc _ _), by rw [← hg6]; exact Blk.new _ _ _, hT2.below (below_alloc _ _)⟩ ?_
  clear hg6 hT2 hb2 HB q0 q1 q2 q3 r0 r1 r2 r3
  rintro V3 ⟨hb3, hk3, hT3⟩
  have HB3 := Lib.hid hb3
  have HBK := Lib.hid hk3
  have HS1 : Hid (∀ V, Below V3.heap.size V3 V → Calls Try.prog 11 #[.agg #[.int .i64 2, .int .i64 0, .string ⟨bs.toArray⟩, .slice A6 n6 c6], .agg #[.int .i64 2, .int .i64 0, .string ⟨sTrue.toArray⟩, .slice none 0 0]] V fun e w' => e = .returned (.bool b) ∧ Below V.heap.size V w') := fun V hb => (same_v (hT3.below hb) (tval_a V sTrue)).mono (by rintro e w' ⟨rfl, h⟩; exact ⟨by rw [HSB.out], h⟩)
  have HKP : Hid (∀ V, Below V3.heap.size V3 V → (V.cell? ⟨g6, 0, none⟩ = some (.int .i64 2) ∧ V.cell? ⟨g6, 1, none⟩ = some (.int .i64 0) ∧ V.cell? ⟨g6, 2, none⟩ = some (.string ⟨bs.toArray⟩) ∧ V.cell? ⟨g6, 3, none⟩ = some (.slice A6 n6 c6)) ∧ Below V3.heap.size V3 V) := fun V hb => ⟨⟨(HBK.out.keep hb).cell 0, (HBK.out.keep hb).cell 1, (HBK.out.keep hb).cell 2, (HBK.out.keep hb).cell 3⟩, hb⟩
  have H00 : Hid (Below V3.heap.size V3 V3.drew) := (Below.refl _ _).drew
  clear hb3 hk3 hT3
  go_region_held3 (fun V => (V.cell? ⟨g6, 0, none⟩ = some (.int .i64 2) ∧ V.cell? ⟨g6, 1, none⟩ = some (.int .i64 0) ∧ V.cell? ⟨g6, 2, none⟩ = some (.string ⟨bs.toArray⟩) ∧ V.cell? ⟨g6, 3, none⟩ = some (.slice A6 n6 c6)) ∧ Below V3.heap.size V3 V) (first | exact HKP.out _ H00.out | exact HKP.out _ (by assumption) | assumption) ((first
    | (go_at_call 17; refine (tatom_v _ _).mono ?_; rintro r V9 ⟨rfl, hb9⟩; have hP9 : Below V3.heap.size V3 V9 := below_step (And.right (by assumption)) hb9; clear hb9)
    | (go_at_call 11; refine (HS1.out _ (And.right (by assumption))).mono ?_; rintro r V9 ⟨rfl, hb9⟩; have hP9 : Below V3.heap.size V3 V9 := below_step (And.right (by assumption)) hb9; clear hb9)))
  rename_i hHeld9
  have hH9 := hHeld9.2
  clear hHeld9
  go_wp2
  go_ret
  exact ⟨rfl, below_step HB3.out hH9⟩
set_option maxRecDepth 100000 in
set_option maxHeartbeats 4000000 in
theorem order_in (t1 t2 : TV) (A1 A2 : Option Addr) (n1 n2 c1 c2 : Nat) (w : World) (h1 : TVal w (.agg #[.int .i64 t1.kind, .int .i64 t1.int, .string ⟨t1.name.toArray⟩, .slice A1 n1 c1]) t1) (h2 : TVal w (.agg #[.int .i64 t2.kind, .int .i64 t2.int, .string ⟨t2.name.toArray⟩, .slice A2 n2 c2]) t2) (hnm1 : t1.named) (hnm2 : t2.named) : Calls Try.prog 5 #[.agg #[.int .i64 t1.kind, .int .i64 t1.int, .string ⟨t1.name.toArray⟩, .slice A1 n1 c1], .agg #[.int .i64 t2.kind, .int .i64 t2.int, .string ⟨t2.name.toArray⟩, .slice A2 n2 c2]] w (Yes w) := by
  have hSM : ∀ V, Below w.heap.size w V → Calls Try.prog 7 #[.slice (some ⟨V.heap.size, 0, none⟩) 2 2, .slice none 0 0] (V.alloc (.cells #[.int .i64 t1.kind, .int .i64 t1.int, .string ⟨t1.name.toArray⟩, .slice A1 n1 c1, .int .i64 t2.kind, .int .i64 t2.int, .string ⟨t2.name.toArray⟩, .slice A2 n2 c2] 24)) fun e w' => e = .returned (.bool (smB [t1, t2])) ∧ Below V.heap.size V w' := fun V hV => by
    have hB := Blk.new V 24 #[.int .i64 t1.kind, .int .i64 t1.int, .string ⟨t1.name.toArray⟩, .slice A1 n1 c1, .int .i64 t2.kind, .int .i64 t2.int, .string ⟨t2.name.toArray⟩, .slice A2 n2 c2]
    have hR := rdM_two (V := V.alloc (.cells #[.int .i64 t1.kind, .int .i64 t1.int, .string ⟨t1.name.toArray⟩, .slice A1 n1 c1, .int .i64 t2.kind, .int .i64 t2.int, .string ⟨t2.name.toArray⟩, .slice A2 n2 c2] 24)) (g := V.heap.size) (fun j v hj => by rw [hB.cell]; exact hj) ((h1.below hV).below (below_alloc _ _)) ((h2.below hV).below (below_alloc _ _))
    exact (small_v [t1, t2] _ 2 2 _ rfl (by simp only [TV.namedL]; exact ⟨hnm1, hnm2, trivial⟩) hR).mono fun e w' ⟨he, hb⟩ => ⟨he, below_step (below_alloc _ _) hb⟩
  have HSM := Lib.hid hSM
  have H1 := Lib.hid h1
  have H2 := Lib.hid h2
  clear hSM h1 h2 hnm1 hnm2
  by_cases hsm : smB [t1, t2] = true
  rotate_left
  · rw [Bool.not_eq_true] at hsm
    rw [hsm] at HSM
    clear hsm
    go_enter Try.func5, Try.ntmps5
    go_upto_region 1 with (fail)
    refine wp_world (fun V => Below w.heap.size w V ∧ Blk V w.heap.size 24 #[.int .i64 t1.kind, .int .i64 t1.int, .string ⟨t1.name.toArray⟩, .slice A1 n1 c1] ∧ Blk V (w.heap.size + 1) 24 #[.int .i64 t2.kind, .int .i64 t2.int, .string ⟨t2.name.toArray⟩, .slice A2 n2 c2]) ⟨below_step (below_alloc _ _) (below_alloc _ _), (Blk.new _ _ _).alloc _, Blk.newAt (by simp)⟩ ?_
    rintro V ⟨hb, hx, hy⟩
    have HV := Lib.hid hb
    have HX := Lib.hid hx
    have HY := Lib.hid hy
    have q0 := hx.cell 0
    have q1 := hx.cell 1
    have q2 := hx.cell 2
    have q3 := hx.cell 3
    have r0 := hy.cell 0
    have r1 := hy.cell 1
    have r2 := hy.cell 2
    have r3 := hy.cell 3
    clear hb hx hy
    go_wp2_with (first
      | (go_at_call 7; refine (HSM.out V HV.out).mono ?_; rintro e w1 ⟨rfl, hb1⟩)
      | (go_at_call 8; refine (live_from (below_step HV.out hb1)).mono ?_; rintro e w9 ⟨rfl, hb9⟩))
    go_ret
    exact ⟨rfl, hb9⟩
  have HG1 := Lib.hid (good_of ((smB_yes hsm).2.1 t1 (by simp)))
  have HG2 := Lib.hid (good_of ((smB_yes hsm).2.1 t2 (by simp)))
  rw [hsm] at HSM
  clear hsm
  go_enter Try.func5, Try.ntmps5
  go_upto_region 1 with (fail)
  refine wp_world (fun V => Below w.heap.size w V ∧ Blk V w.heap.size 24 #[.int .i64 t1.kind, .int .i64 t1.int, .string ⟨t1.name.toArray⟩, .slice A1 n1 c1] ∧ Blk V (w.heap.size + 1) 24 #[.int .i64 t2.kind, .int .i64 t2.int, .string ⟨t2.name.toArray⟩, .slice A2 n2 c2]) ⟨below_step (below_alloc _ _) (below_alloc _ _), (Blk.new _ _ _).alloc _, Blk.newAt (by simp)⟩ ?_
  rintro V ⟨hb, hx, hy⟩
  have HV := Lib.hid hb
  have HX := Lib.hid hx
  have HY := Lib.hid hy
  have q0 := hx.cell 0
  have q1 := hx.cell 1
  have q2 := hx.cell 2
  have q3 := hx.cell 3
  have r0 := hy.cell 0
  have r1 := hy.cell 1
  have r2 := hy.cell 2
  have r3 := hy.cell 3
  clear hb hx hy
  go_upto_region 3 with (go_at_call 7; refine (HSM.out V HV.out).mono ?_; rintro e w1 ⟨rfl, hb1⟩)
  refine wp_world (fun V => Below w.heap.size w V ∧ Blk V w.heap.size 24 #[.int .i64 t1.kind, .int .i64 t1.int, .string ⟨t1.name.toArray⟩, .slice A1 n1 c1] ∧ Blk V (w.heap.size + 1) 24 #[.int .i64 t2.kind, .int .i64 t2.int, .string ⟨t2.name.toArray⟩, .slice A2 n2 c2]) ⟨below_step HV.out hb1, HX.out.keep hb1, HY.out.keep hb1⟩ ?_
  clear hb1 HV HX HY q0 q1 q2 q3 r0 r1 r2 r3
  rintro V1 ⟨hb, hx, hy⟩
  have HV := Lib.hid hb
  have HX := Lib.hid hx
  have HY := Lib.hid hy
  clear hb hx hy
  have HKP : Hid (∀ V, Below V1.heap.size V1 V → (V.cell? ⟨w.heap.size, 0, none⟩ = some (.int .i64 t1.kind) ∧ V.cell? ⟨w.heap.size, 1, none⟩ = some (.int .i64 t1.int) ∧ V.cell? ⟨w.heap.size, 2, none⟩ = some (.string ⟨t1.name.toArray⟩) ∧ V.cell? ⟨w.heap.size, 3, none⟩ = some (.slice A1 n1 c1) ∧ V.cell? ⟨w.heap.size + 1, 0, none⟩ = some (.int .i64 t2.kind) ∧ V.cell? ⟨w.heap.size + 1, 1, none⟩ = some (.int .i64 t2.int) ∧ V.cell? ⟨w.heap.size + 1, 2, none⟩ = some (.string ⟨t2.name.toArray⟩) ∧ V.cell? ⟨w.heap.size + 1, 3, none⟩ = some (.slice A2 n2 c2)) ∧ Below V1.heap.size V1 V) := fun V hb => ⟨⟨(HX.out.keep hb).cell 0, (HX.out.keep hb).cell 1, (HX.out.keep hb).cell 2, (HX.out.keep hb).cell 3, (HY.out.keep hb).cell 0, (HY.out.keep hb).cell 1, (HY.out.keep hb).cell 2, (HY.out.keep hb).cell 3⟩, hb⟩
  have H00 : Hid (Below V1.heap.size V1 V1.drew) := (Below.refl _ _).drew
  have HY0 : Hid (∀ V, Below V1.heap.size V1 V → Calls Try.prog 16 #[.string ⟨#[60]⟩, .agg #[.int .i64 t1.kind, .int .i64 t1.int, .string ⟨t1.name.toArray⟩, .slice A1 n1 c1], .agg #[.int .i64 t2.kind, .int .i64 t2.int, .string ⟨t2.name.toArray⟩, .slice A2 n2 c2]] V fun e w' => e = .returned (.bool (decide (t1.cmp t2 < 0))) ∧ Below V.heap.size V w') := fun V hb => yes_v (name := [60]) (H1.out.below (below_step HV.out hb)) (H2.out.below (below_step HV.out hb)) HG1.out HG2.out (by simp) (by simp [doP, twoP])
  have HY1 : Hid (∀ V, Below V1.heap.size V1 V → Calls Try.prog 16 #[.string ⟨#[61, 61]⟩, .agg #[.int .i64 t1.kind, .int .i64 t1.int, .string ⟨t1.name.toArray⟩, .slice A1 n1 c1], .agg #[.int .i64 t2.kind, .int .i64 t2.int, .string ⟨t2.name.toArray⟩, .slice A2 n2 c2]] V fun e w' => e = .returned (.bool (t1.cmp t2 == 0)) ∧ Below V.heap.size V w') := fun V hb => yes_v (name := [61, 61]) (H1.out.below (below_step HV.out hb)) (H2.out.below (below_step HV.out hb)) HG1.out HG2.out (by simp) (by simp [doP, twoP])
  have HY2 : Hid (∀ V, Below V1.heap.size V1 V → Calls Try.prog 16 #[.string ⟨#[62]⟩, .agg #[.int .i64 t1.kind, .int .i64 t1.int, .string ⟨t1.name.toArray⟩, .slice A1 n1 c1], .agg #[.int .i64 t2.kind, .int .i64 t2.int, .string ⟨t2.name.toArray⟩, .slice A2 n2 c2]] V fun e w' => e = .returned (.bool (decide (0 < t1.cmp t2))) ∧ Below V.heap.size V w') := fun V hb => yes_v (name := [62]) (H1.out.below (below_step HV.out hb)) (H2.out.below (below_step HV.out hb)) HG1.out HG2.out (by simp) (by simp [doP, twoP])
  have HY3 : Hid (∀ V, Below V1.heap.size V1 V → Calls Try.prog 16 #[.string ⟨#[61, 60]⟩, .agg #[.int .i64 t1.kind, .int .i64 t1.int, .string ⟨t1.name.toArray⟩, .slice A1 n1 c1], .agg #[.int .i64 t2.kind, .int .i64 t2.int, .string ⟨t2.name.toArray⟩, .slice A2 n2 c2]] V fun e w' => e = .returned (.bool (decide (t1.cmp t2 ≤ 0))) ∧ Below V.heap.size V w') := fun V hb => yes_v (name := [61, 60]) (H1.out.below (below_step HV.out hb)) (H2.out.below (below_step HV.out hb)) HG1.out HG2.out (by simp) (by simp [doP, twoP])
  have HY4 : Hid (∀ V, Below V1.heap.size V1 V → Calls Try.prog 16 #[.string ⟨#[62, 61]⟩, .agg #[.int .i64 t1.kind, .int .i64 t1.int, .string ⟨t1.name.toArray⟩, .slice A1 n1 c1], .agg #[.int .i64 t2.kind, .int .i64 t2.int, .string ⟨t2.name.toArray⟩, .slice A2 n2 c2]] V fun e w' => e = .returned (.bool (decide (0 ≤ t1.cmp t2))) ∧ Below V.heap.size V w') := fun V hb => yes_v (name := [62, 61]) (H1.out.below (below_step HV.out hb)) (H2.out.below (below_step HV.out hb)) HG1.out HG2.out (by simp) (by simp [doP, twoP])
  have HY5 : Hid (∀ V, Below V1.heap.size V1 V → Calls Try.prog 16 #[.string ⟨#[47, 61]⟩, .agg #[.int .i64 t1.kind, .int .i64 t1.int, .string ⟨t1.name.toArray⟩, .slice A1 n1 c1], .agg #[.int .i64 t2.kind, .int .i64 t2.int, .string ⟨t2.name.toArray⟩, .slice A2 n2 c2]] V fun e w' => e = .returned (.bool (t1.cmp t2 != 0)) ∧ Below V.heap.size V w') := fun V hb => yes_v (name := [47, 61]) (H1.out.below (below_step HV.out hb)) (H2.out.below (below_step HV.out hb)) HG1.out HG2.out (by simp) (by simp [doP, twoP])
  rcases (show t1.cmp t2 < 0 ∨ t1.cmp t2 = 0 ∨ 0 < t1.cmp t2 by omega) with hc | hc | hc
  · rw [show (decide (t1.cmp t2 < 0)) = true by simp; omega] at HY0
    rw [show (t1.cmp t2 == 0) = false by simp; omega] at HY1
    rw [show (decide (0 < t1.cmp t2)) = false by simp; omega] at HY2
    rw [show (decide (t1.cmp t2 ≤ 0)) = true by simp; omega] at HY3
    rw [show (decide (0 ≤ t1.cmp t2)) = false by simp; omega] at HY4
    rw [show (t1.cmp t2 != 0) = true by simp; omega] at HY5
    clear hc
    go_region_held3 (fun V => (V.cell? ⟨w.heap.size, 0, none⟩ = some (.int .i64 t1.kind) ∧ V.cell? ⟨w.heap.size, 1, none⟩ = some (.int .i64 t1.int) ∧ V.cell? ⟨w.heap.size, 2, none⟩ = some (.string ⟨t1.name.toArray⟩) ∧ V.cell? ⟨w.heap.size, 3, none⟩ = some (.slice A1 n1 c1) ∧ V.cell? ⟨w.heap.size + 1, 0, none⟩ = some (.int .i64 t2.kind) ∧ V.cell? ⟨w.heap.size + 1, 1, none⟩ = some (.int .i64 t2.int) ∧ V.cell? ⟨w.heap.size + 1, 2, none⟩ = some (.string ⟨t2.name.toArray⟩) ∧ V.cell? ⟨w.heap.size + 1, 3, none⟩ = some (.slice A2 n2 c2)) ∧ Below V1.heap.size V1 V) (first | exact HKP.out _ H00.out | exact HKP.out _ (by assumption) | assumption) ((first
      | (go_at_call 16; (with_reducible refine (HY0.out _ (And.right (by assumption))).mono ?_); rintro r V9 ⟨rfl, hb9⟩; have hP9 : Below V1.heap.size V1 V9 := below_step (And.right (by assumption)) hb9; clear hb9)
      | (go_at_call 16; (with_reducible refine (HY1.out _ (And.right (by assumption))).mono ?_); rintro r V9 ⟨rfl, hb9⟩; have hP9 : Below V1.heap.size V1 V9 := below_step (And.right (by assumption)) hb9; clear hb9)
      | (go_at_call 16; (with_reducible refine (HY2.out _ (And.right (by assumption))).mono ?_); rintro r V9 ⟨rfl, hb9⟩; have hP9 : Below V1.heap.size V1 V9 := below_step (And.right (by assumption)) hb9; clear hb9)))
    rename_i hHeld9
    have hH9 := Lib.hid hHeld9.2
    have hC9 := hHeld9.1
    obtain ⟨q0, q1, q2, q3, r0, r1, r2, r3⟩ := hC9
    clear hHeld9
    have hb9 := hH9.out
    have hw : wrap64 ((0 : Int) + 1) = 1 := by unfold wrap64; omega
    go_wp2_with (first
      | (go_at_call 16; (with_reducible refine (HY3.out _ hb9).mono ?_); rintro r V8 ⟨rfl, hb8⟩; have hb9 := below_step hb9 hb8; obtain ⟨q0, q1, q2, q3, r0, r1, r2, r3⟩ := (HKP.out _ hb9).1)
      | (go_at_call 16; (with_reducible refine (HY4.out _ hb9).mono ?_); rintro r V8 ⟨rfl, hb8⟩; have hb9 := below_step hb9 hb8; obtain ⟨q0, q1, q2, q3, r0, r1, r2, r3⟩ := (HKP.out _ hb9).1)
      | (go_at_call 16; (with_reducible refine (HY5.out _ hb9).mono ?_); rintro r V8 ⟨rfl, hb8⟩; have hb9 := below_step hb9 hb8; obtain ⟨q0, q1, q2, q3, r0, r1, r2, r3⟩ := (HKP.out _ hb9).1)
      | (go_at_call 8; refine (live_from (below_step HV.out hb9)).mono ?_; rintro e w9 ⟨rfl, hb7⟩))
    go_ret
    exact ⟨rfl, hb7⟩
  · rw [show (decide (t1.cmp t2 < 0)) = false by rw [hc]; rfl] at HY0
    rw [show (t1.cmp t2 == 0) = true by rw [hc]; rfl] at HY1
    rw [show (decide (0 < t1.cmp t2)) = false by rw [hc]; rfl] at HY2
    rw [show (decide (t1.cmp t2 ≤ 0)) = true by rw [hc]; rfl] at HY3
    rw [show (decide (0 ≤ t1.cmp t2)) = true by rw [hc]; rfl] at HY4
    rw [show (t1.cmp t2 != 0) = false by rw [hc]; rfl] at HY5
    clear hc
    go_region_held3 (fun V => (V.cell? ⟨w.heap.size, 0, none⟩ = some (.int .i64 t1.kind) ∧ V.cell? ⟨w.heap.size, 1, none⟩ = some (.int .i64 t1.int) ∧ V.cell? ⟨w.heap.size, 2, none⟩ = some (.string ⟨t1.name.toArray⟩) ∧ V.cell? ⟨w.heap.size, 3, none⟩ = some (.slice A1 n1 c1) ∧ V.cell? ⟨w.heap.size + 1, 0, none⟩ = some (.int .i64 t2.kind) ∧ V.cell? ⟨w.heap.size + 1, 1, none⟩ = some (.int .i64 t2.int) ∧ V.cell? ⟨w.heap.size + 1, 2, none⟩ = some (.string ⟨t2.name.toArray⟩) ∧ V.cell? ⟨w.heap.size + 1, 3, none⟩ = some (.slice A2 n2 c2)) ∧ Below V1.heap.size V1 V) (first | exact HKP.out _ H00.out | exact HKP.out _ (by assumption) | assumption) ((first
      | (go_at_call 16; (with_reducible refine (HY0.out _ (And.right (by assumption))).mono ?_); rintro r V9 ⟨rfl, hb9⟩; have hP9 : Below V1.heap.size V1 V9 := below_step (And.right (by assumption)) hb9; clear hb9)
      | (go_at_call 16; (with_reducible refine (HY1.out _ (And.right (by assumption))).mono ?_); rintro r V9 ⟨rfl, hb9⟩; have hP9 : Below V1.heap.size V1 V9 := below_step (And.right (by assumption)) hb9; clear hb9)
      | (go_at_call 16; (with_reducible refine (HY2.out _ (And.right (by assumption))).mono ?_); rintro r V9 ⟨rfl, hb9⟩; have hP9 : Below V1.heap.size V1 V9 := below_step (And.right (by assumption)) hb9; clear hb9)))
    rename_i hHeld9
    have hH9 := Lib.hid hHeld9.2
    have hC9 := hHeld9.1
    obtain ⟨q0, q1, q2, q3, r0, r1, r2, r3⟩ := hC9
    clear hHeld9
    have hb9 := hH9.out
    have hw : wrap64 ((0 : Int) + 1) = 1 := by unfold wrap64; omega
    go_wp2_with (first
      | (go_at_call 16; (with_reducible refine (HY3.out _ hb9).mono ?_); rintro r V8 ⟨rfl, hb8⟩; have hb9 := below_step hb9 hb8; obtain ⟨q0, q1, q2, q3, r0, r1, r2, r3⟩ := (HKP.out _ hb9).1)
      | (go_at_call 16; (with_reducible refine (HY4.out _ hb9).mono ?_); rintro r V8 ⟨rfl, hb8⟩; have hb9 := below_step hb9 hb8; obtain ⟨q0, q1, q2, q3, r0, r1, r2, r3⟩ := (HKP.out _ hb9).1)
      | (go_at_call 16; (with_reducible refine (HY5.out _ hb9).mono ?_); rintro r V8 ⟨rfl, hb8⟩; have hb9 := below_step hb9 hb8; obtain ⟨q0, q1, q2, q3, r0, r1, r2, r3⟩ := (HKP.out _ hb9).1)
      | (go_at_call 8; refine (live_from (below_step HV.out hb9)).mono ?_; rintro e w9 ⟨rfl, hb7⟩))
    go_ret
    exact ⟨rfl, hb7⟩
  · rw [show (decide (t1.cmp t2 < 0)) = false by simp; omega] at HY0
    rw [show (t1.cmp t2 == 0) = false by simp; omega] at HY1
    rw [show (decide (0 < t1.cmp t2)) = true by simp; omega] at HY2
    rw [show (decide (t1.cmp t2 ≤ 0)) = false by simp; omega] at HY3
    rw [show (decide (0 ≤ t1.cmp t2)) = true by simp; omega] at HY4
    rw [show (t1.cmp t2 != 0) = true by simp; omega] at HY5
    clear hc
    go_region_held3 (fun V => (V.cell? ⟨w.heap.size, 0, none⟩ = some (.int .i64 t1.kind) ∧ V.cell? ⟨w.heap.size, 1, none⟩ = some (.int .i64 t1.int) ∧ V.cell? ⟨w.heap.size, 2, none⟩ = some (.string ⟨t1.name.toArray⟩) ∧ V.cell? ⟨w.heap.size, 3, none⟩ = some (.slice A1 n1 c1) ∧ V.cell? ⟨w.heap.size + 1, 0, none⟩ = some (.int .i64 t2.kind) ∧ V.cell? ⟨w.heap.size + 1, 1, none⟩ = some (.int .i64 t2.int) ∧ V.cell? ⟨w.heap.size + 1, 2, none⟩ = some (.string ⟨t2.name.toArray⟩) ∧ V.cell? ⟨w.heap.size + 1, 3, none⟩ = some (.slice A2 n2 c2)) ∧ Below V1.heap.size V1 V) (first | exact HKP.out _ H00.out | exact HKP.out _ (by assumption) | assumption) ((first
      | (go_at_call 16; (with_reducible refine (HY0.out _ (And.right (by assumption))).mono ?_); rintro r V9 ⟨rfl, hb9⟩; have hP9 : Below V1.heap.size V1 V9 := below_step (And.right (by assumption)) hb9; clear hb9)
      | (go_at_call 16; (with_reducible refine (HY1.out _ (And.right (by assumption))).mono ?_); rintro r V9 ⟨rfl, hb9⟩; have hP9 : Below V1.heap.size V1 V9 := below_step (And.right (by assumption)) hb9; clear hb9)
      | (go_at_call 16; (with_reducible refine (HY2.out _ (And.right (by assumption))).mono ?_); rintro r V9 ⟨rfl, hb9⟩; have hP9 : Below V1.heap.size V1 V9 := below_step (And.right (by assumption)) hb9; clear hb9)))
    rename_i hHeld9
    have hH9 := Lib.hid hHeld9.2
    have hC9 := hHeld9.1
    obtain ⟨q0, q1, q2, q3, r0, r1, r2, r3⟩ := hC9
    clear hHeld9
    have hb9 := hH9.out
    have hw : wrap64 ((0 : Int) + 1) = 1 := by unfold wrap64; omega
    go_wp2_with (first
      | (go_at_call 16; (with_reducible refine (HY3.out _ hb9).mono ?_); rintro r V8 ⟨rfl, hb8⟩; have hb9 := below_step hb9 hb8; obtain ⟨q0, q1, q2, q3, r0, r1, r2, r3⟩ := (HKP.out _ hb9).1)
      | (go_at_call 16; (with_reducible refine (HY4.out _ hb9).mono ?_); rintro r V8 ⟨rfl, hb8⟩; have hb9 := below_step hb9 hb8; obtain ⟨q0, q1, q2, q3, r0, r1, r2, r3⟩ := (HKP.out _ hb9).1)
      | (go_at_call 16; (with_reducible refine (HY5.out _ hb9).mono ?_); rintro r V8 ⟨rfl, hb8⟩; have hb9 := below_step hb9 hb8; obtain ⟨q0, q1, q2, q3, r0, r1, r2, r3⟩ := (HKP.out _ hb9).1)
      | (go_at_call 8; refine (live_from (below_step HV.out hb9)).mono ?_; rintro e w9 ⟨rfl, hb7⟩))
    go_ret
    exact ⟨rfl, hb7⟩
end
end Go.Proofs.Ytbpnlpjbjmojfaa
