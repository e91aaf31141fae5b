/- Arith (layer 14): ArithNumbers. Written by argeny.py. -/
import Derived.Test.YtbpnlpjbjmojfaaArV
namespace Go.Proofs.Ytbpnlpjbjmojfaa
open Go.RowKit
set_option linter.unusedVariables false

theorem numP_in {n : Int} (h : -576460752303423488 ≤ n ∧ n ≤ 576460752303423487) : numP n = (tI n, []) := by unfold numP; rw [if_neg (by omega)]
theorem numP_out {n : Int} (h : ¬ (-576460752303423488 ≤ n ∧ n ≤ 576460752303423487)) : numP n = (tZ, sLim) := by unfold numP; rw [if_pos (by omega)]
theorem int_of {t : TV} (h : checkP [t] = 0) (hk : t.kind = 1) : t = tI t.int ∧ -576460752303423488 ≤ t.int ∧ t.int ≤ 576460752303423487 := by
  obtain ⟨h1, h2⟩ := checkP_le h
  simp only [TV.isL, Bool.and_true] at h2
  cases t with
  | mk k n s l =>
    obtain rfl : k = 1 := hk
    have h3 : headB 1 n s l.length = true := by simp only [TV.isT, Bool.and_eq_true] at h2; exact h2.1
    simp [headB] at h3
    obtain ⟨⟨⟨h4, h5⟩, rfl⟩, rfl⟩ := h3
    exact ⟨rfl, h4, h5⟩
theorem quo_rem (a b : Int) : b * a.tdiv b + a.tmod b = a := Int.mul_tdiv_add_tmod a b
theorem rem_bd (a b : Int) (hb : b ≠ 0) (ha : -576460752303423488 ≤ a ∧ a ≤ 576460752303423487) : (-576460752303423488 ≤ a.tmod b ∧ a.tmod b ≤ 576460752303423487) ∧ (-576460752303423488 ≤ b * a.tdiv b ∧ b * a.tdiv b ≤ 576460752303423487) := by
  have h1 : (a.tmod b).natAbs = a.natAbs % b.natAbs := Int.natAbs_tmod a b
  have h2 := Nat.mod_le a.natAbs b.natAbs
  have h3 := quo_rem a b
  have hs : (0 ≤ a → 0 ≤ a.tmod b) ∧ (a ≤ 0 → a.tmod b ≤ 0) := by
    constructor
    · exact fun h => Int.tmod_nonneg b h
    · intro h
      have := Int.tmod_nonneg b (show 0 ≤ -a by omega)
      rw [Int.neg_tmod] at this
      omega
  generalize a.tmod b = r at *
  generalize b * a.tdiv b = m at *
  generalize a.natAbs % b.natAbs = k at *
  omega
section
variable {W w V V' : World} {u u1 u2 : Value} {t t1 t2 : TV}
set_option maxRecDepth 100000 in
set_option maxHeartbeats 1000000 in
theorem ltruth_v (b : Bool) (W : World) : Calls Try.prog 12 #[.bool b] W fun e w' => ∃ A n c, e = .returned (.agg #[.int .i64 (truT b).kind, .int .i64 (truT b).int, .string ⟨(truT b).name.toArray⟩, .slice A n c]) ∧ TVal w' (.agg #[.int .i64 (truT b).kind, .int .i64 (truT b).int, .string ⟨(truT b).name.toArray⟩, .slice A n c]) (truT b) ∧ Below W.heap.size W w' := by
  cases b
  · have HC := Lib.hid (fun V => tatom_v sFalse V)
    have HK := Lib.hid (Blk.new W 24 #[.int .i64 0, .int .i64 0, .string ⟨#[]⟩, .slice none 0 0])
    go_enter Try.func12, Try.ntmps12
    go_wp2_with (go_at_call 17; refine (HC.out _).mono ?_; rintro e w1 ⟨rfl, hb⟩; have HK := Lib.hid (HK.out.keep hb); have z0 := HK.out.cell 0; have z1 := HK.out.cell 1; have z2 := HK.out.cell 2; have z3 := HK.out.cell 3; have zf0 := HK.out.frozen 0; have zf1 := HK.out.frozen 1; have zf2 := HK.out.frozen 2; have zf3 := HK.out.frozen 3)
    have hB2 := HK.out.set4 (.int .i64 2) (.int .i64 0) (.string ⟨sFalse.toArray⟩) (.slice none 0 0)
    have y0 := hB2.cell 0
    have y1 := hB2.cell 1
    have y2 := hB2.cell 2
    have y3 := hB2.cell 3
    refine bodyPost_ret (v := .agg #[.int .i64 2, .int .i64 0, .string ⟨sFalse.toArray⟩, .slice none 0 0]) (by simp [results, Try.results12, go_sem, y0, y1, y2, y3]) rfl ?_
    have hfr := fr_set4 w1 W.heap.size (.int .i64 2) (.int .i64 0) (.string ⟨sFalse.toArray⟩) (.slice none 0 0)
    have hbb := below_step (below_alloc W (.cells #[.int .i64 0, .int .i64 0, .string ⟨#[]⟩, .slice none 0 0] 24)) hb
    exact ⟨none, 0, 0, rfl, tval_a _ sFalse, hbb.trans (hfr.below hbb.size (fun k hk => by rw [hk]; exact Nat.le_refl _))⟩
  · have HC := Lib.hid (fun V => tatom_v sTrue V)
    have HK := Lib.hid (Blk.new W 24 #[.int .i64 0, .int .i64 0, .string ⟨#[]⟩, .slice none 0 0])
    go_enter Try.func12, Try.ntmps12
    go_wp2_with (go_at_call 17; refine (HC.out _).mono ?_; rintro e w1 ⟨rfl, hb⟩; have HK := Lib.hid (HK.out.keep hb); have z0 := HK.out.cell 0; have z1 := HK.out.cell 1; have z2 := HK.out.cell 2; have z3 := HK.out.cell 3; have zf0 := HK.out.frozen 0; have zf1 := HK.out.frozen 1; have zf2 := HK.out.frozen 2; have zf3 := HK.out.frozen 3)
    have hB2 := HK.out.set4 (.int .i64 2) (.int .i64 0) (.string ⟨sTrue.toArray⟩) (.slice none 0 0)
    have y0 := hB2.cell 0
    have y1 := hB2.cell 1
    have y2 := hB2.cell 2
    have y3 := hB2.cell 3
    refine bodyPost_ret (v := .agg #[.int .i64 2, .int .i64 0, .string ⟨sTrue.toArray⟩, .slice none 0 0]) (by simp [results, Try.results12, go_sem, y0, y1, y2, y3]) rfl ?_
    have hfr := fr_set4 w1 W.heap.size (.int .i64 2) (.int .i64 0) (.string ⟨sTrue.toArray⟩) (.slice none 0 0)
    have hbb := below_step (below_alloc W (.cells #[.int .i64 0, .int .i64 0, .string ⟨#[]⟩, .slice none 0 0] 24)) hb
    exact ⟨none, 0, 0, rfl, tval_a _ sTrue, hbb.trans (hfr.below hbb.size (fun k hk => by rw [hk]; exact Nat.le_refl _))⟩
set_option maxRecDepth 100000 in
set_option maxHeartbeats 1000000 in
theorem lsame_v (h1 : TVal W u1 t) (h2 : TVal W u2 t) (s : List UInt8) : Calls Try.prog 10 #[u1, .string ⟨s.toArray⟩, u2, .string ⟨s.toArray⟩] W fun e w' => e = .returned (.bool true) ∧ Below W.heap.size W w' := by
  have HC : Hid (∀ V, Below W.heap.size W V → Calls Try.prog 11 #[u1, u2] V fun e w' => e = .returned (.bool true) ∧ Below W.heap.size W w') := fun V hV => (same_v (h1.below hV) (h2.below hV)).mono (by rintro e w' ⟨rfl, hb⟩; exact ⟨by rw [show (t.cmp t == 0) = true by rw [(TV.cmp_zero t t).2 rfl]; rfl], below_step hV hb⟩)
  obtain ⟨A1, n1, c1, rfl, _⟩ := h1.form
  obtain ⟨A2, n2, c2, rfl, _⟩ := h2.form
  clear h1 h2
  go_enter Try.func10, Try.ntmps10
  go_wp2_with (go_at_call 11; refine (HC.out _ (below_step (below_alloc _ _) (below_alloc _ _))).mono ?_; rintro e w1 ⟨rfl, hb⟩)
  go_ret
  exact ⟨rfl, hb⟩

set_option maxRecDepth 100000 in
set_option maxHeartbeats 8000000 in
theorem numbers_in (ta tb : TV) (Ata Atb : Option Addr) (nta ntb cta ctb : Nat) (x y : Bool) (w : World) (h1 : TVal w (.agg #[.int .i64 ta.kind, .int .i64 ta.int, .string ⟨ta.name.toArray⟩, .slice Ata nta cta]) ta) (h2 : TVal w (.agg #[.int .i64 tb.kind, .int .i64 tb.int, .string ⟨tb.name.toArray⟩, .slice Atb ntb ctb]) tb) (hnm1 : ta.named) (hnm2 : tb.named) : Calls Try.prog 3 #[.agg #[.int .i64 ta.kind, .int .i64 ta.int, .string ⟨ta.name.toArray⟩, .slice Ata nta cta], .agg #[.int .i64 tb.kind, .int .i64 tb.int, .string ⟨tb.name.toArray⟩, .slice Atb ntb ctb], .bool x, .bool y] w (Yes w) := by
  have hSM : ∀ V, Below w.heap.size w V → Calls Try.prog 7 #[.slice (some ⟨V.heap.size, 0, none⟩) 2 2, .slice none 0 0] (V.alloc (.cells #[.int .i64 ta.kind, .int .i64 ta.int, .string ⟨ta.name.toArray⟩, .slice Ata nta cta, .int .i64 tb.kind, .int .i64 tb.int, .string ⟨tb.name.toArray⟩, .slice Atb ntb ctb] 24)) fun e w' => e = .returned (.bool (smB [ta, tb])) ∧ Below V.heap.size V w' := fun V hV => by
    have hB := Blk.new V 24 #[.int .i64 ta.kind, .int .i64 ta.int, .string ⟨ta.name.toArray⟩, .slice Ata nta cta, .int .i64 tb.kind, .int .i64 tb.int, .string ⟨tb.name.toArray⟩, .slice Atb ntb ctb]
    have hR := rdM_two (V := V.alloc (.cells #[.int .i64 ta.kind, .int .i64 ta.int, .string ⟨ta.name.toArray⟩, .slice Ata nta cta, .int .i64 tb.kind, .int .i64 tb.int, .string ⟨tb.name.toArray⟩, .slice Atb ntb ctb] 24)) (g := V.heap.size) (fun j v hj => by rw [hB.cell]; exact hj) ((h1.below hV).below (below_alloc _ _)) ((h2.below hV).below (below_alloc _ _))
    exact (small_v [ta, tb] _ 2 2 _ rfl (by simp only [TV.namedL]; exact ⟨hnm1, hnm2, trivial⟩) hR).mono fun e w' ⟨he, hb⟩ => ⟨he, below_step (below_alloc _ _) hb⟩
  have HSM := Lib.hid hSM
  have H1 := Lib.hid h1
  have H2 := Lib.hid h2
  clear hSM h1 h2 hnm1 hnm2
  by_cases hsm : smB [ta, tb] = true
  rotate_left
  · rw [Bool.not_eq_true] at hsm
    rw [hsm] at HSM
    clear hsm
    go_enter Try.func3, Try.ntmps3
    go_upto_region 1 with (fail)
    refine wp_world (fun V => Below w.heap.size w V ∧ Blk V w.heap.size 24 #[.int .i64 ta.kind, .int .i64 ta.int, .string ⟨ta.name.toArray⟩, .slice Ata nta cta] ∧ TVal V (.agg #[.int .i64 ta.kind, .int .i64 ta.int, .string ⟨ta.name.toArray⟩, .slice Ata nta cta]) ta ∧ Blk V (w.heap.size + 1) 24 #[.int .i64 tb.kind, .int .i64 tb.int, .string ⟨tb.name.toArray⟩, .slice Atb ntb ctb] ∧ TVal V (.agg #[.int .i64 tb.kind, .int .i64 tb.int, .string ⟨tb.name.toArray⟩, .slice Atb ntb ctb]) tb) ⟨below_step (below_alloc _ _) (below_alloc _ _), (Blk.new _ _ _).alloc _, (H1.out.below (below_alloc _ _)).below (below_alloc _ _), Blk.newAt (by simp), (H2.out.below (below_alloc _ _)).below (below_alloc _ _)⟩ ?_
    rintro V1 ⟨hb, hkta, htta, hktb, httb⟩
    have HB := Lib.hid hb
    have HKta := Lib.hid hkta
    have HTta := Lib.hid htta
    have qta0 := hkta.cell 0
    have qta1 := hkta.cell 1
    have qta2 := hkta.cell 2
    have qta3 := hkta.cell 3
    have HKtb := Lib.hid hktb
    have HTtb := Lib.hid httb
    have qtb0 := hktb.cell 0
    have qtb1 := hktb.cell 1
    have qtb2 := hktb.cell 2
    have qtb3 := hktb.cell 3
    clear hb hkta htta hktb httb
    go_wp2_with (first
      | (go_at_call 7; refine (HSM.out _ HB.out).mono ?_; rintro e w1 ⟨rfl, hb2⟩)
      | (go_at_call 8; refine (live_from (below_step HB.out hb2)).mono ?_; rintro e w9 ⟨rfl, hb9⟩))
    go_ret
    exact ⟨rfl, hb9⟩
  have hca := (smB_yes hsm).2.1 ta (by simp)
  have hcb := (smB_yes hsm).2.1 tb (by simp)
  have HGta := Lib.hid (good_of hca)
  have HGtb := Lib.hid (good_of hcb)
  rw [hsm] at HSM
  clear hsm
  obtain ⟨⟨tp, ep⟩, hp⟩ : ∃ r, doP [43] [ta, tb] = r := ⟨_, rfl⟩
  have hq : doP [43] [tb, ta] = (tp, ep) := by
    rw [← hp]
    show (if tb.kind = 1 ∧ ta.kind = 1 then numP (tb.int + ta.int) else (tZ, sAri)) = (if ta.kind = 1 ∧ tb.kind = 1 then numP (ta.int + tb.int) else (tZ, sAri))
    rw [Int.add_comm]
    by_cases h : ta.kind = 1 ∧ tb.kind = 1
    · rw [if_pos h, if_pos ⟨h.2, h.1⟩]
    · rw [if_neg h, if_neg (fun h2 => h ⟨h2.2, h2.1⟩)]
  have HDtp := Lib.hid hp
  -- the three ways
  have hway : ((doP [100, 105, 118] [ta, tb] = (tZ, sAri) ∧ doP [114, 101, 109] [ta, tb] = (tZ, sAri)) ∨ (doP [100, 105, 118] [ta, tb] = (tZ, sLim) ∧ ∃ r, doP [114, 101, 109] [ta, tb] = (r, []))) ∨
      ∃ d r m, doP [100, 105, 118] [ta, tb] = (d, []) ∧ doP [114, 101, 109] [ta, tb] = (r, []) ∧ doP [42] [tb, d] = (m, []) ∧ doP [43] [m, r] = (ta, []) ∧ GoodT d ∧ GoodT r ∧ GoodT m := by
    show (((if ta.kind = 1 ∧ tb.kind = 1 then (if tb.int = 0 then (tZ, sAri) else numP (ta.int.tdiv tb.int)) else (tZ, sAri)) = (tZ, sAri) ∧ (if ta.kind = 1 ∧ tb.kind = 1 then (if tb.int = 0 then (tZ, sAri) else numP (ta.int.tmod tb.int)) else (tZ, sAri)) = (tZ, sAri)) ∨ ((if ta.kind = 1 ∧ tb.kind = 1 then (if tb.int = 0 then (tZ, sAri) else numP (ta.int.tdiv tb.int)) else (tZ, sAri)) = (tZ, sLim) ∧ ∃ r, (if ta.kind = 1 ∧ tb.kind = 1 then (if tb.int = 0 then (tZ, sAri) else numP (ta.int.tmod tb.int)) else (tZ, sAri)) = (r, []))) ∨
      ∃ d r m, (if ta.kind = 1 ∧ tb.kind = 1 then (if tb.int = 0 then (tZ, sAri) else numP (ta.int.tdiv tb.int)) else (tZ, sAri)) = (d, []) ∧ (if ta.kind = 1 ∧ tb.kind = 1 then (if tb.int = 0 then (tZ, sAri) else numP (ta.int.tmod tb.int)) else (tZ, sAri)) = (r, []) ∧ (if tb.kind = 1 ∧ d.kind = 1 then numP (tb.int * d.int) else (tZ, sAri)) = (m, []) ∧ (if m.kind = 1 ∧ r.kind = 1 then numP (m.int + r.int) else (tZ, sAri)) = (ta, []) ∧ GoodT d ∧ GoodT r ∧ GoodT m
    by_cases h : ta.kind = 1 ∧ tb.kind = 1
    · obtain ⟨ea, la, ua⟩ := int_of hca h.1
      rw [if_pos h, if_pos h]
      by_cases h0 : tb.int = 0
      · rw [if_pos h0, if_pos h0]
        exact .inl (.inl ⟨rfl, rfl⟩)
      · rw [if_neg h0, if_neg h0]
        obtain ⟨hr, hm⟩ := rem_bd ta.int tb.int h0 ⟨la, ua⟩
        rw [numP_in hr]
        by_cases hd : -576460752303423488 ≤ ta.int.tdiv tb.int ∧ ta.int.tdiv tb.int ≤ 576460752303423487
        · rw [numP_in hd]
          refine .inr ⟨_, _, tI (tb.int * ta.int.tdiv tb.int), rfl, rfl, ?_, ?_, good_i (by omega), good_i (by omega), good_i (by omega)⟩
          · rw [if_pos ⟨h.2, rfl⟩]
            exact numP_in hm
          · rw [if_pos ⟨rfl, rfl⟩]
            show numP (tb.int * ta.int.tdiv tb.int + ta.int.tmod tb.int) = _
            rw [quo_rem, numP_in ⟨la, ua⟩, ← ea]
        · rw [numP_out hd]
          exact .inl (.inr ⟨rfl, _, rfl⟩)
    · rw [if_neg h, if_neg h]
      exact .inl (.inl ⟨rfl, rfl⟩)
  have HGtu := Lib.hid (show GoodT (truT x) from good_a _)
  have HGtv := Lib.hid (show GoodT (truT y) from good_a _)
  have hdw : doP [97, 110, 100] [truT x, truT y] = (truT (x && y), []) := by cases x <;> cases y <;> rfl
  have hdn : doP [110, 111, 116] [truT (x && y)] = (truT (!(x && y)), []) := by cases x <;> cases y <;> rfl
  have hdk : doP [110, 111, 116] [truT x] = (truT (!x), []) := by cases x <;> rfl
  have hdl : doP [110, 111, 116] [truT y] = (truT (!y), []) := by cases y <;> rfl
  have hdo : doP [111, 114] [truT (!x), truT (!y)] = (truT (!(x && y)), []) := by cases x <;> cases y <;> rfl
  have HLX := Lib.hid (fun V => ltruth_v x V)
  have HLY := Lib.hid (fun V => ltruth_v y V)
  obtain ⟨tu, htu⟩ : ∃ z, truT x = z := ⟨_, rfl⟩
  obtain ⟨tv, htv⟩ : ∃ z, truT y = z := ⟨_, rfl⟩
  obtain ⟨tw, htw⟩ : ∃ z, truT (x && y) = z := ⟨_, rfl⟩
  obtain ⟨tn, htn⟩ : ∃ z, truT (!(x && y)) = z := ⟨_, rfl⟩
  obtain ⟨tk, htk⟩ : ∃ z, truT (!x) = z := ⟨_, rfl⟩
  obtain ⟨tl, htl⟩ : ∃ z, truT (!y) = z := ⟨_, rfl⟩
  have HGtw : Hid (GoodT tw) := by rw [← htw]; exact good_a _
  have HGtk : Hid (GoodT tk) := by rw [← htk]; exact good_a _
  have HGtl : Hid (GoodT tl) := by rw [← htl]; exact good_a _
  rw [htu, htv, htw] at hdw
  rw [htw, htn] at hdn
  rw [htu, htk] at hdk
  rw [htv, htl] at hdl
  rw [htk, htl, htn] at hdo
  rw [htu] at HGtu HLX
  rw [htv] at HGtv HLY
  have HDtw := Lib.hid hdw
  have HDtn := Lib.hid hdn
  have HDtk := Lib.hid hdk
  have HDtl := Lib.hid hdl
  have HDto := Lib.hid hdo
  have HDtq := Lib.hid hq
  clear htu htv htw htn htk htl hdw hdn hdk hdl hdo hp hq hca hcb
  go_enter Try.func3, Try.ntmps3
  go_upto_region 1 with (fail)
  refine wp_world (fun V => Below w.heap.size w V ∧ Blk V w.heap.size 24 #[.int .i64 ta.kind, .int .i64 ta.int, .string ⟨ta.name.toArray⟩, .slice Ata nta cta] ∧ TVal V (.agg #[.int .i64 ta.kind, .int .i64 ta.int, .string ⟨ta.name.toArray⟩, .slice Ata nta cta]) ta ∧ Blk V (w.heap.size + 1) 24 #[.int .i64 tb.kind, .int .i64 tb.int, .string ⟨tb.name.toArray⟩, .slice Atb ntb ctb] ∧ TVal V (.agg #[.int .i64 tb.kind, .int .i64 tb.int, .string ⟨tb.name.toArray⟩, .slice Atb ntb ctb]) tb) ⟨below_step (below_alloc _ _) (below_alloc _ _), (Blk.new _ _ _).alloc _, (H1.out.below (below_alloc _ _)).below (below_alloc _ _), Blk.newAt (by simp), (H2.out.below (below_alloc _ _)).below (below_alloc _ _)⟩ ?_
  rintro V1 ⟨hb, hkta, htta, hktb, httb⟩
  have HB := Lib.hid hb
  have HKta := Lib.hid hkta
  have HTta := Lib.hid htta
  have qta0 := hkta.cell 0
  have qta1 := hkta.cell 1
  have qta2 := hkta.cell 2
  have qta3 := hkta.cell 3
  have HKtb := Lib.hid hktb
  have HTtb := Lib.hid httb
  have qtb0 := hktb.cell 0
  have qtb1 := hktb.cell 1
  have qtb2 := hktb.cell 2
  have qtb3 := hktb.cell 3
  clear hb hkta htta hktb httb
  go_upto_region 3 with (go_at_call 7; refine (HSM.out _ HB.out).mono ?_; rintro e w1 ⟨rfl, hb2⟩)
  refine wp_world (fun V => Below w.heap.size w V ∧ Blk V w.heap.size 24 #[.int .i64 ta.kind, .int .i64 ta.int, .string ⟨ta.name.toArray⟩, .slice Ata nta cta] ∧ TVal V (.agg #[.int .i64 ta.kind, .int .i64 ta.int, .string ⟨ta.name.toArray⟩, .slice Ata nta cta]) ta ∧ Blk V (w.heap.size + 1) 24 #[.int .i64 tb.kind, .int .i64 tb.int, .string ⟨tb.name.toArray⟩, .slice Atb ntb ctb] ∧ TVal V (.agg #[.int .i64 tb.kind, .int .i64 tb.int, .string ⟨tb.name.toArray⟩, .slice Atb ntb ctb]) tb) ⟨below_step HB.out hb2, HKta.out.keep hb2, HTta.out.below hb2, HKtb.out.keep hb2, HTtb.out.below hb2⟩ ?_
  clear hb2 HB qta0 qta1 qta2 qta3 qtb0 qtb1 qtb2 qtb3 HKta HTta HKtb HTtb
  rintro V2 ⟨hb, hkta, htta, hktb, httb⟩
  have HB := Lib.hid hb
  have HKta := Lib.hid hkta
  have HTta := Lib.hid htta
  have qta0 := hkta.cell 0
  have qta1 := hkta.cell 1
  have qta2 := hkta.cell 2
  have qta3 := hkta.cell 3
  have HKtb := Lib.hid hktb
  have HTtb := Lib.hid httb
  have qtb0 := hktb.cell 0
  have qtb1 := hktb.cell 1
  have qtb2 := hktb.cell 2
  have qtb3 := hktb.cell 3
  clear hb hkta htta hktb httb
  go_upto_region 4 with (go_at_call 9; refine (do2_at HTta.out HTtb.out HGta.out HGtb.out HDtp.out (by simp)).mono ?_; rintro e w2 ⟨u, rfl, hT2, hb2⟩; obtain ⟨Atp, ntp, ctp, rfl, hn⟩ := hT2.form; clear hn)
  obtain ⟨gtp, hg⟩ : ∃ g, w2.heap.size = g := ⟨_, rfl⟩
  rw [hg]
  refine wp_world (fun V => Below w.heap.size w V ∧ Blk V w.heap.size 24 #[.int .i64 ta.kind, .int .i64 ta.int, .string ⟨ta.name.toArray⟩, .slice Ata nta cta] ∧ TVal V (.agg #[.int .i64 ta.kind, .int .i64 ta.int, .string ⟨ta.name.toArray⟩, .slice Ata nta cta]) ta ∧ Blk V (w.heap.size + 1) 24 #[.int .i64 tb.kind, .int .i64 tb.int, .string ⟨tb.name.toArray⟩, .slice Atb ntb ctb] ∧ TVal V (.agg #[.int .i64 tb.kind, .int .i64 tb.int, .string ⟨tb.name.toArray⟩, .slice Atb ntb ctb]) tb ∧ Blk V gtp 24 #[.int .i64 tp.kind, .int .i64 tp.int, .string ⟨tp.name.toArray⟩, .slice Atp ntp ctp] ∧ TVal V (.agg #[.int .i64 tp.kind, .int .i64 tp.int, .string ⟨tp.name.toArray⟩, .slice Atp ntp ctp]) tp) ⟨below_step (below_step HB.out hb2) (below_alloc _ _), (HKta.out.keep hb2).alloc _, (HTta.out.below hb2).below (below_alloc _ _), (HKtb.out.keep hb2).alloc _, (HTtb.out.below hb2).below (below_alloc _ _), by rw [← hg]; exact Blk.new _ _ _, hT2.below (below_alloc _ _)⟩ ?_
  clear hg hT2 hb2 HB qta0 qta1 qta2 qta3 qtb0 qtb1 qtb2 qtb3 HKta HTta HKtb HTtb
  rintro V3 ⟨hb, hkta, htta, hktb, httb, hktp, http⟩
  have HB := Lib.hid hb
  have HKta := Lib.hid hkta
  have HTta := Lib.hid htta
  have qta0 := hkta.cell 0
  have qta1 := hkta.cell 1
  have qta2 := hkta.cell 2
  have qta3 := hkta.cell 3
  have HKtb := Lib.hid hktb
  have HTtb := Lib.hid httb
  have qtb0 := hktb.cell 0
  have qtb1 := hktb.cell 1
  have qtb2 := hktb.cell 2
  have qtb3 := hktb.cell 3
  have HKtp := Lib.hid hktp
  have HTtp := Lib.hid http
  have qtp0 := hktp.cell 0
  have qtp1 := hktp.cell 1
  have qtp2 := hktp.cell 2
  have qtp3 := hktp.cell 3
  clear hb hkta htta hktb httb hktp http
  obtain ⟨tq, htq⟩ : ∃ z, tp = z := ⟨_, rfl⟩
  have HQ := Lib.hid htq
  rw [show (tp, ep) = (tq, ep) by rw [htq]] at HDtq
  clear htq
  go_upto_region 5 with (go_at_call 9; refine (do2_at HTtb.out HTta.out HGtb.out HGta.out HDtq.out (by simp)).mono ?_; rintro e w2 ⟨u, rfl, hT2, hb2⟩; obtain ⟨Atq, ntq, ctq, rfl, hn⟩ := hT2.form; clear hn)
  obtain ⟨gtq, hg⟩ : ∃ g, w2.heap.size = g := ⟨_, rfl⟩
  rw [hg]
  refine wp_world (fun V => Below w.heap.size w V ∧ Blk V w.heap.size 24 #[.int .i64 ta.kind, .int .i64 ta.int, .string ⟨ta.name.toArray⟩, .slice Ata nta cta] ∧ TVal V (.agg #[.int .i64 ta.kind, .int .i64 ta.int, .string ⟨ta.name.toArray⟩, .slice Ata nta cta]) ta ∧ Blk V (w.heap.size + 1) 24 #[.int .i64 tb.kind, .int .i64 tb.int, .string ⟨tb.name.toArray⟩, .slice Atb ntb ctb] ∧ TVal V (.agg #[.int .i64 tb.kind, .int .i64 tb.int, .string ⟨tb.name.toArray⟩, .slice Atb ntb ctb]) tb ∧ Blk V gtp 24 #[.int .i64 tp.kind, .int .i64 tp.int, .string ⟨tp.name.toArray⟩, .slice Atp ntp ctp] ∧ TVal V (.agg #[.int .i64 tp.kind, .int .i64 tp.int, .string ⟨tp.name.toArray⟩, .slice Atp ntp ctp]) tp ∧ Blk V gtq 24 #[.int .i64 tq.kind, .int .i64 tq.int, .string ⟨tq.name.toArray⟩, .slice Atq ntq ctq] ∧ TVal V (.agg #[.int .i64 tq.kind, .int .i64 tq.int, .string ⟨tq.name.toArray⟩, .slice Atq ntq ctq]) tq) ⟨below_step (below_step HB.out hb2) (below_alloc _ _), (HKta.out.keep hb2).alloc _, (HTta.out.below hb2).below (below_alloc _ _), (HKtb.out.keep hb2).alloc _, (HTtb.out.below hb2).below (below_alloc _ _), (HKtp.out.keep hb2).alloc _, (HTtp.out.below hb2).below (below_alloc _ _), by rw [← hg]; exact Blk.new _ _ _, hT2.below (below_alloc _ _)⟩ ?_
  clear hg hT2 hb2 HB qta0 qta1 qta2 qta3 qtb0 qtb1 qtb2 qtb3 qtp0 qtp1 qtp2 qtp3 HKta HTta HKtb HTtb HKtp HTtp
  rintro V4 ⟨hb, hkta, htta, hktb, httb, hktp, http, hktq, httq⟩
  have HB := Lib.hid hb
  have HKta := Lib.hid hkta
  have HTta := Lib.hid htta
  have qta0 := hkta.cell 0
  have qta1 := hkta.cell 1
  have qta2 := hkta.cell 2
  have qta3 := hkta.cell 3
  have HKtb := Lib.hid hktb
  have HTtb := Lib.hid httb
  have qtb0 := hktb.cell 0
  have qtb1 := hktb.cell 1
  have qtb2 := hktb.cell 2
  have qtb3 := hktb.cell 3
  have HKtp := Lib.hid hktp
  have HTtp := Lib.hid http
  have qtp0 := hktp.cell 0
  have qtp1 := hktp.cell 1
  have qtp2 := hktp.cell 2
  have qtp3 := hktp.cell 3
  have HKtq := Lib.hid hktq
  have HTtq := Lib.hid httq
  have qtq0 := hktq.cell 0
  have qtq1 := hktq.cell 1
  have qtq2 := hktq.cell 2
  have qtq3 := hktq.cell 3
  clear hb hkta htta hktb httb hktp http hktq httq
  have HSM2 := Lib.hid (lsame_v (s := ep) HTtp.out (by rw [HQ.out]; exact HTtq.out))
  go_upto_region 7 with (go_at_call 10; refine HSM2.out.mono ?_; rintro e w1 ⟨rfl, hb2⟩)
  refine wp_world (fun V => Below w.heap.size w V ∧ Blk V w.heap.size 24 #[.int .i64 ta.kind, .int .i64 ta.int, .string ⟨ta.name.toArray⟩, .slice Ata nta cta] ∧ TVal V (.agg #[.int .i64 ta.kind, .int .i64 ta.int, .string ⟨ta.name.toArray⟩, .slice Ata nta cta]) ta ∧ Blk V (w.heap.size + 1) 24 #[.int .i64 tb.kind, .int .i64 tb.int, .string ⟨tb.name.toArray⟩, .slice Atb ntb ctb] ∧ TVal V (.agg #[.int .i64 tb.kind, .int .i64 tb.int, .string ⟨tb.name.toArray⟩, .slice Atb ntb ctb]) tb) ⟨below_step HB.out hb2, HKta.out.keep hb2, HTta.out.below hb2, HKtb.out.keep hb2, HTtb.out.below hb2⟩ ?_
  clear hb2 HB qta0 qta1 qta2 qta3 qtb0 qtb1 qtb2 qtb3 qtp0 qtp1 qtp2 qtp3 qtq0 qtq1 qtq2 qtq3 HKta HTta HKtb HTtb HKtp HTtp HKtq HTtq
  rintro V5 ⟨hb, hkta, htta, hktb, httb⟩
  have HB := Lib.hid hb
  have HKta := Lib.hid hkta
  have HTta := Lib.hid htta
  have qta0 := hkta.cell 0
  have qta1 := hkta.cell 1
  have qta2 := hkta.cell 2
  have qta3 := hkta.cell 3
  have HKtb := Lib.hid hktb
  have HTtb := Lib.hid httb
  have qtb0 := hktb.cell 0
  have qtb1 := hktb.cell 1
  have qtb2 := hktb.cell 2
  have qtb3 := hktb.cell 3
  clear hb hkta htta hktb httb
  clear HQ HSM2
  rcases hway with (⟨hd, hr⟩ | ⟨hd, tr, hr⟩) | ⟨td, tr, tm, hd, hr, hm, hs, gd, gr, gm⟩
  · have HDtd := Lib.hid hd
    have HDtr := Lib.hid hr
    have hari : sAri = [98, 97, 100, 97, 114, 105, 116, 104] := rfl
    clear hd hr
    obtain ⟨td, htd⟩ : ∃ z, tZ = z := ⟨_, rfl⟩
    rw [htd] at HDtd HDtr
    obtain ⟨tr, htr⟩ : ∃ z, td = z := ⟨_, rfl⟩
    rw [show (td, sAri) = (tr, sAri) by rw [htr]] at HDtr
    clear htd htr
    go_upto_region 8 with (go_at_call 9; refine (do2_at HTta.out HTtb.out HGta.out HGtb.out HDtd.out (by simp)).mono ?_; rintro e w2 ⟨u, rfl, hT2, hb2⟩; obtain ⟨Atd, ntd, ctd, rfl, hn⟩ := hT2.form; clear hn)
    obtain ⟨gtd, hg⟩ : ∃ g, w2.heap.size = g := ⟨_, rfl⟩
    rw [hg]
    refine wp_world (fun V => Below w.heap.size w V ∧ Blk V w.heap.size 24 #[.int .i64 ta.kind, .int .i64 ta.int, .string ⟨ta.name.toArray⟩, .slice Ata nta cta] ∧ TVal V (.agg #[.int .i64 ta.kind, .int .i64 ta.int, .string ⟨ta.name.toArray⟩, .slice Ata nta cta]) ta ∧ Blk V (w.heap.size + 1) 24 #[.int .i64 tb.kind, .int .i64 tb.int, .string ⟨tb.name.toArray⟩, .slice Atb ntb ctb] ∧ TVal V (.agg #[.int .i64 tb.kind, .int .i64 tb.int, .string ⟨tb.name.toArray⟩, .slice Atb ntb ctb]) tb ∧ Blk V gtd 24 #[.int .i64 td.kind, .int .i64 td.int, .string ⟨td.name.toArray⟩, .slice Atd ntd ctd] ∧ TVal V (.agg #[.int .i64 td.kind, .int .i64 td.int, .string ⟨td.name.toArray⟩, .slice Atd ntd ctd]) td) ⟨below_step (below_step HB.out hb2) (below_alloc _ _), (HKta.out.keep hb2).alloc _, (HTta.out.below hb2).below (below_alloc _ _), (HKtb.out.keep hb2).alloc _, (HTtb.out.below hb2).below (below_alloc _ _), by rw [← hg]; exact Blk.new _ _ _, hT2.below (below_alloc _ _)⟩ ?_
    clear hg hT2 hb2 HB qta0 qta1 qta2 qta3 qtb0 qtb1 qtb2 qtb3 HKta HTta HKtb HTtb
    rintro V6 ⟨hb, hkta, htta, hktb, httb, hktd, httd⟩
    have HB := Lib.hid hb
    have HKta := Lib.hid hkta
    have HTta := Lib.hid htta
    have qta0 := hkta.cell 0
    have qta1 := hkta.cell 1
    have qta2 := hkta.cell 2
    have qta3 := hkta.cell 3
    have HKtb := Lib.hid hktb
    have HTtb := Lib.hid httb
    have qtb0 := hktb.cell 0
    have qtb1 := hktb.cell 1
    have qtb2 := hktb.cell 2
    have qtb3 := hktb.cell 3
    have HKtd := Lib.hid hktd
    have HTtd := Lib.hid httd
    have qtd0 := hktd.cell 0
    have qtd1 := hktd.cell 1
    have qtd2 := hktd.cell 2
    have qtd3 := hktd.cell 3
    clear hb hkta htta hktb httb hktd httd
    go_upto_region 9 with (go_at_call 9; refine (do2_at HTta.out HTtb.out HGta.out HGtb.out HDtr.out (by simp)).mono ?_; rintro e w2 ⟨u, rfl, hT2, hb2⟩; obtain ⟨Atr, ntr, ctr, rfl, hn⟩ := hT2.form; clear hn)
    obtain ⟨gtr, hg⟩ : ∃ g, w2.heap.size = g := ⟨_, rfl⟩
    rw [hg]
    refine wp_world (fun V => Below w.heap.size w V ∧ Blk V w.heap.size 24 #[.int .i64 ta.kind, .int .i64 ta.int, .string ⟨ta.name.toArray⟩, .slice Ata nta cta] ∧ TVal V (.agg #[.int .i64 ta.kind, .int .i64 ta.int, .string ⟨ta.name.toArray⟩, .slice Ata nta cta]) ta ∧ Blk V (w.heap.size + 1) 24 #[.int .i64 tb.kind, .int .i64 tb.int, .string ⟨tb.name.toArray⟩, .slice Atb ntb ctb] ∧ TVal V (.agg #[.int .i64 tb.kind, .int .i64 tb.int, .string ⟨tb.name.toArray⟩, .slice Atb ntb ctb]) tb ∧ Blk V gtd 24 #[.int .i64 td.kind, .int .i64 td.int, .string ⟨td.name.toArray⟩, .slice Atd ntd ctd] ∧ TVal V (.agg #[.int .i64 td.kind, .int .i64 td.int, .string ⟨td.name.toArray⟩, .slice Atd ntd ctd]) td ∧ Blk V gtr 24 #[.int .i64 tr.kind, .int .i64 tr.int, .string ⟨tr.name.toArray⟩, .slice Atr ntr ctr] ∧ TVal V (.agg #[.int .i64 tr.kind, .int .i64 tr.int, .string ⟨tr.name.toArray⟩, .slice Atr ntr ctr]) tr) ⟨below_step (below_step HB.out hb2) (below_alloc _ _), (HKta.out.keep hb2).alloc _, (HTta.out.below hb2).below (below_alloc _ _), (HKtb.out.keep hb2).alloc _, (HTtb.out.below hb2).below (below_alloc _ _), (HKtd.out.keep hb2).alloc _, (HTtd.out.below hb2).below (below_alloc _ _), by rw [← hg]; exact Blk.new _ _ _, hT2.below (below_alloc _ _)⟩ ?_
    clear hg hT2 hb2 HB qta0 qta1 qta2 qta3 qtb0 qtb1 qtb2 qtb3 qtd0 qtd1 qtd2 qtd3 HKta HTta HKtb HTtb HKtd HTtd
    rintro V7 ⟨hb, hkta, htta, hktb, httb, hktd, httd, hktr, httr⟩
    have HB := Lib.hid hb
    have HKta := Lib.hid hkta
    have HTta := Lib.hid htta
    have qta0 := hkta.cell 0
    have qta1 := hkta.cell 1
    have qta2 := hkta.cell 2
    have qta3 := hkta.cell 3
    have HKtb := Lib.hid hktb
    have HTtb := Lib.hid httb
    have qtb0 := hktb.cell 0
    have qtb1 := hktb.cell 1
    have qtb2 := hktb.cell 2
    have qtb3 := hktb.cell 3
    have HKtd := Lib.hid hktd
    have HTtd := Lib.hid httd
    have qtd0 := hktd.cell 0
    have qtd1 := hktd.cell 1
    have qtd2 := hktd.cell 2
    have qtd3 := hktd.cell 3
    have HKtr := Lib.hid hktr
    have HTtr := Lib.hid httr
    have qtr0 := hktr.cell 0
    have qtr1 := hktr.cell 1
    have qtr2 := hktr.cell 2
    have qtr3 := hktr.cell 3
    clear hb hkta htta hktb httb hktd httd hktr httr
    go_upto_region 16 with (fail)
    have hb2 := Below.refl V7.heap.size V7
    refine wp_world (fun V => Below w.heap.size w V) (below_step HB.out hb2) ?_
    clear hb2 HB qta0 qta1 qta2 qta3 qtb0 qtb1 qtb2 qtb3 qtd0 qtd1 qtd2 qtd3 qtr0 qtr1 qtr2 qtr3 HKta HTta HKtb HTtb HKtd HTtd HKtr HTtr
    rintro V8 hb
    have HB := Lib.hid hb
    clear hb 
    go_upto_region 17 with (first
      | (go_at_call 12; (with_reducible refine (HLX.out _).mono ?_); rintro e wu ⟨Atu, ntu, ctu, rfl, hTu, hbu⟩)
      | (go_at_call 12; (with_reducible refine (HLY.out _).mono ?_); rintro e wv ⟨Atv, ntv, ctv, rfl, hTv, hbv⟩))
    obtain ⟨gtu, hgu⟩ : ∃ g, wv.heap.size = g := ⟨_, rfl⟩
    rw [hgu]
    have hb2 := below_step hbu hbv
    refine wp_world (fun V => Below w.heap.size w V ∧ Blk V gtu 24 #[.int .i64 tu.kind, .int .i64 tu.int, .string ⟨tu.name.toArray⟩, .slice Atu ntu ctu] ∧ TVal V (.agg #[.int .i64 tu.kind, .int .i64 tu.int, .string ⟨tu.name.toArray⟩, .slice Atu ntu ctu]) tu ∧ Blk V (gtu + 1) 24 #[.int .i64 tv.kind, .int .i64 tv.int, .string ⟨tv.name.toArray⟩, .slice Atv ntv ctv] ∧ TVal V (.agg #[.int .i64 tv.kind, .int .i64 tv.int, .string ⟨tv.name.toArray⟩, .slice Atv ntv ctv]) tv) ⟨below_step (below_step (below_step HB.out hb2) (below_alloc _ _)) (below_alloc _ _), by rw [← hgu]; exact (Blk.new _ _ _).alloc _, ((hTu.below hbv).below (below_alloc _ _)).below (below_alloc _ _), by rw [← hgu]; exact Blk.newAt (by simp), (hTv.below (below_alloc _ _)).below (below_alloc _ _)⟩ ?_
    rintro V9 ⟨hb, hktu, httu, hktv, httv⟩
    have HB := Lib.hid hb
    have HKtu := Lib.hid hktu
    have HTtu := Lib.hid httu
    have qtu0 := hktu.cell 0
    have qtu1 := hktu.cell 1
    have qtu2 := hktu.cell 2
    have qtu3 := hktu.cell 3
    have HKtv := Lib.hid hktv
    have HTtv := Lib.hid httv
    have qtv0 := hktv.cell 0
    have qtv1 := hktv.cell 1
    have qtv2 := hktv.cell 2
    have qtv3 := hktv.cell 3
    clear hb hktu httu hktv httv
    clear hbu hbv hTu hTv hgu hb2
    go_upto_region 18 with (go_at_call 9; refine (do2_at HTtu.out HTtv.out HGtu.out HGtv.out HDtw.out (by simp)).mono ?_; rintro e w2 ⟨u, rfl, hT2, hb2⟩; obtain ⟨Atw, ntw, ctw, rfl, hn⟩ := hT2.form; clear hn)
    obtain ⟨gtw, hg⟩ : ∃ g, w2.heap.size = g := ⟨_, rfl⟩
    rw [hg]
    refine wp_world (fun V => Below w.heap.size w V ∧ Blk V gtu 24 #[.int .i64 tu.kind, .int .i64 tu.int, .string ⟨tu.name.toArray⟩, .slice Atu ntu ctu] ∧ TVal V (.agg #[.int .i64 tu.kind, .int .i64 tu.int, .string ⟨tu.name.toArray⟩, .slice Atu ntu ctu]) tu ∧ Blk V (gtu + 1) 24 #[.int .i64 tv.kind, .int .i64 tv.int, .string ⟨tv.name.toArray⟩, .slice Atv ntv ctv] ∧ TVal V (.agg #[.int .i64 tv.kind, .int .i64 tv.int, .string ⟨tv.name.toArray⟩, .slice Atv ntv ctv]) tv ∧ Blk V gtw 24 #[.int .i64 tw.kind, .int .i64 tw.int, .string ⟨tw.name.toArray⟩, .slice Atw ntw ctw] ∧ TVal V (.agg #[.int .i64 tw.kind, .int .i64 tw.int, .string ⟨tw.name.toArray⟩, .slice Atw ntw ctw]) tw) ⟨below_step (below_step HB.out hb2) (below_alloc _ _), (HKtu.out.keep hb2).alloc _, (HTtu.out.below hb2).below (below_alloc _ _), (HKtv.out.keep hb2).alloc _, (HTtv.out.below hb2).below (below_alloc _ _), by rw [← hg]; exact Blk.new _ _ _, hT2.below (below_alloc _ _)⟩ ?_
    clear hg hT2 hb2 HB qtu0 qtu1 qtu2 qtu3 qtv0 qtv1 qtv2 qtv3 HKtu HTtu HKtv HTtv
    rintro V10 ⟨hb, hktu, httu, hktv, httv, hktw, httw⟩
    have HB := Lib.hid hb
    have HKtu := Lib.hid hktu
    have HTtu := Lib.hid httu
    have qtu0 := hktu.cell 0
    have qtu1 := hktu.cell 1
    have qtu2 := hktu.cell 2
    have qtu3 := hktu.cell 3
    have HKtv := Lib.hid hktv
    have HTtv := Lib.hid httv
    have qtv0 := hktv.cell 0
    have qtv1 := hktv.cell 1
    have qtv2 := hktv.cell 2
    have qtv3 := hktv.cell 3
    have HKtw := Lib.hid hktw
    have HTtw := Lib.hid httw
    have qtw0 := hktw.cell 0
    have qtw1 := hktw.cell 1
    have qtw2 := hktw.cell 2
    have qtw3 := hktw.cell 3
    clear hb hktu httu hktv httv hktw httw
    go_upto_region 19 with (go_at_call 9; refine (do1_at HTtw.out HGtw.out HDtn.out (by simp)).mono ?_; rintro e w2 ⟨u, rfl, hT2, hb2⟩; obtain ⟨Atn, ntn, ctn, rfl, hn⟩ := hT2.form; clear hn)
    obtain ⟨gtn, hg⟩ : ∃ g, w2.heap.size = g := ⟨_, rfl⟩
    rw [hg]
    refine wp_world (fun V => Below w.heap.size w V ∧ Blk V gtu 24 #[.int .i64 tu.kind, .int .i64 tu.int, .string ⟨tu.name.toArray⟩, .slice Atu ntu ctu] ∧ TVal V (.agg #[.int .i64 tu.kind, .int .i64 tu.int, .string ⟨tu.name.toArray⟩, .slice Atu ntu ctu]) tu ∧ Blk V (gtu + 1) 24 #[.int .i64 tv.kind, .int .i64 tv.int, .string ⟨tv.name.toArray⟩, .slice Atv ntv ctv] ∧ TVal V (.agg #[.int .i64 tv.kind, .int .i64 tv.int, .string ⟨tv.name.toArray⟩, .slice Atv ntv ctv]) tv ∧ Blk V gtn 24 #[.int .i64 tn.kind, .int .i64 tn.int, .string ⟨tn.name.toArray⟩, .slice Atn ntn ctn] ∧ TVal V (.agg #[.int .i64 tn.kind, .int .i64 tn.int, .string ⟨tn.name.toArray⟩, .slice Atn ntn ctn]) tn) ⟨below_step (below_step HB.out hb2) (below_alloc _ _), (HKtu.out.keep hb2).alloc _, (HTtu.out.below hb2).below (below_alloc _ _), (HKtv.out.keep hb2).alloc _, (HTtv.out.below hb2).below (below_alloc _ _), by rw [← hg]; exact Blk.new _ _ _, hT2.below (below_alloc _ _)⟩ ?_
    clear hg hT2 hb2 HB qtu0 qtu1 qtu2 qtu3 qtv0 qtv1 qtv2 qtv3 qtw0 qtw1 qtw2 qtw3 HKtu HTtu HKtv HTtv HKtw HTtw
    rintro V11 ⟨hb, hktu, httu, hktv, httv, hktn, httn⟩
    have HB := Lib.hid hb
    have HKtu := Lib.hid hktu
    have HTtu := Lib.hid httu
    have qtu0 := hktu.cell 0
    have qtu1 := hktu.cell 1
    have qtu2 := hktu.cell 2
    have qtu3 := hktu.cell 3
    have HKtv := Lib.hid hktv
    have HTtv := Lib.hid httv
    have qtv0 := hktv.cell 0
    have qtv1 := hktv.cell 1
    have qtv2 := hktv.cell 2
    have qtv3 := hktv.cell 3
    have HKtn := Lib.hid hktn
    have HTtn := Lib.hid httn
    have qtn0 := hktn.cell 0
    have qtn1 := hktn.cell 1
    have qtn2 := hktn.cell 2
    have qtn3 := hktn.cell 3
    clear hb hktu httu hktv httv hktn httn
    go_upto_region 20 with (go_at_call 9; refine (do1_at HTtu.out HGtu.out HDtk.out (by simp)).mono ?_; rintro e w2 ⟨u, rfl, hT2, hb2⟩; obtain ⟨Atk, ntk, ctk, rfl, hn⟩ := hT2.form; clear hn)
    obtain ⟨gtk, hg⟩ : ∃ g, w2.heap.size = g := ⟨_, rfl⟩
    rw [hg]
    refine wp_world (fun V => Below w.heap.size w V ∧ Blk V (gtu + 1) 24 #[.int .i64 tv.kind, .int .i64 tv.int, .string ⟨tv.name.toArray⟩, .slice Atv ntv ctv] ∧ TVal V (.agg #[.int .i64 tv.kind, .int .i64 tv.int, .string ⟨tv.name.toArray⟩, .slice Atv ntv ctv]) tv ∧ Blk V gtn 24 #[.int .i64 tn.kind, .int .i64 tn.int, .string ⟨tn.name.toArray⟩, .slice Atn ntn ctn] ∧ TVal V (.agg #[.int .i64 tn.kind, .int .i64 tn.int, .string ⟨tn.name.toArray⟩, .slice Atn ntn ctn]) tn ∧ Blk V gtk 24 #[.int .i64 tk.kind, .int .i64 tk.int, .string ⟨tk.name.toArray⟩, .slice Atk ntk ctk] ∧ TVal V (.agg #[.int .i64 tk.kind, .int .i64 tk.int, .string ⟨tk.name.toArray⟩, .slice Atk ntk ctk]) tk) ⟨below_step (below_step HB.out hb2) (below_alloc _ _), (HKtv.out.keep hb2).alloc _, (HTtv.out.below hb2).below (below_alloc _ _), (HKtn.out.keep hb2).alloc _, (HTtn.out.below hb2).below (below_alloc _ _), by rw [← hg]; exact Blk.new _ _ _, hT2.below (below_alloc _ _)⟩ ?_
    clear hg hT2 hb2 HB qtu0 qtu1 qtu2 qtu3 qtv0 qtv1 qtv2 qtv3 qtn0 qtn1 qtn2 qtn3 HKtu HTtu HKtv HTtv HKtn HTtn
    rintro V12 ⟨hb, hktv, httv, hktn, httn, hktk, httk⟩
    have HB := Lib.hid hb
    have HKtv := Lib.hid hktv
    have HTtv := Lib.hid httv
    have qtv0 := hktv.cell 0
    have qtv1 := hktv.cell 1
    have qtv2 := hktv.cell 2
    have qtv3 := hktv.cell 3
    have HKtn := Lib.hid hktn
    have HTtn := Lib.hid httn
    have qtn0 := hktn.cell 0
    have qtn1 := hktn.cell 1
    have qtn2 := hktn.cell 2
    have qtn3 := hktn.cell 3
    have HKtk := Lib.hid hktk
    have HTtk := Lib.hid httk
    have qtk0 := hktk.cell 0
    have qtk1 := hktk.cell 1
    have qtk2 := hktk.cell 2
    have qtk3 := hktk.cell 3
    clear hb hktv httv hktn httn hktk httk
    go_upto_region 21 with (go_at_call 9; refine (do1_at HTtv.out HGtv.out HDtl.out (by simp)).mono ?_; rintro e w2 ⟨u, rfl, hT2, hb2⟩; obtain ⟨Atl, ntl, ctl, rfl, hn⟩ := hT2.form; clear hn)
    obtain ⟨gtl, hg⟩ : ∃ g, w2.heap.size = g := ⟨_, rfl⟩
    rw [hg]
    refine wp_world (fun V => Below w.heap.size w V ∧ Blk V gtn 24 #[.int .i64 tn.kind, .int .i64 tn.int, .string ⟨tn.name.toArray⟩, .slice Atn ntn ctn] ∧ TVal V (.agg #[.int .i64 tn.kind, .int .i64 tn.int, .string ⟨tn.name.toArray⟩, .slice Atn ntn ctn]) tn ∧ Blk V gtk 24 #[.int .i64 tk.kind, .int .i64 tk.int, .string ⟨tk.name.toArray⟩, .slice Atk ntk ctk] ∧ TVal V (.agg #[.int .i64 tk.kind, .int .i64 tk.int, .string ⟨tk.name.toArray⟩, .slice Atk ntk ctk]) tk ∧ Blk V gtl 24 #[.int .i64 tl.kind, .int .i64 tl.int, .string ⟨tl.name.toArray⟩, .slice Atl ntl ctl] ∧ TVal V (.agg #[.int .i64 tl.kind, .int .i64 tl.int, .string ⟨tl.name.toArray⟩, .slice Atl ntl ctl]) tl) ⟨below_step (below_step HB.out hb2) (below_alloc _ _), (HKtn.out.keep hb2).alloc _, (HTtn.out.below hb2).below (below_alloc _ _), (HKtk.out.keep hb2).alloc _, (HTtk.out.below hb2).below (below_alloc _ _), by rw [← hg]; exact Blk.new _ _ _, hT2.below (below_alloc _ _)⟩ ?_
    clear hg hT2 hb2 HB qtv0 qtv1 qtv2 qtv3 qtn0 qtn1 qtn2 qtn3 qtk0 qtk1 qtk2 qtk3 HKtv HTtv HKtn HTtn HKtk HTtk
    rintro V13 ⟨hb, hktn, httn, hktk, httk, hktl, httl⟩
    have HB := Lib.hid hb
    have HKtn := Lib.hid hktn
    have HTtn := Lib.hid httn
    have qtn0 := hktn.cell 0
    have qtn1 := hktn.cell 1
    have qtn2 := hktn.cell 2
    have qtn3 := hktn.cell 3
    have HKtk := Lib.hid hktk
    have HTtk := Lib.hid httk
    have qtk0 := hktk.cell 0
    have qtk1 := hktk.cell 1
    have qtk2 := hktk.cell 2
    have qtk3 := hktk.cell 3
    have HKtl := Lib.hid hktl
    have HTtl := Lib.hid httl
    have qtl0 := hktl.cell 0
    have qtl1 := hktl.cell 1
    have qtl2 := hktl.cell 2
    have qtl3 := hktl.cell 3
    clear hb hktn httn hktk httk hktl httl
    obtain ⟨to, hto⟩ : ∃ z, tn = z := ⟨_, rfl⟩
    have HQ := Lib.hid hto
    rw [show (tn, ([] : List UInt8)) = (to, []) by rw [hto]] at HDto
    clear hto
    go_upto_region 22 with (go_at_call 9; refine (do2_at HTtk.out HTtl.out HGtk.out HGtl.out HDto.out (by simp)).mono ?_; rintro e w2 ⟨u, rfl, hT2, hb2⟩; obtain ⟨Ato, nto, cto, rfl, hn⟩ := hT2.form; clear hn)
    obtain ⟨gto, hg⟩ : ∃ g, w2.heap.size = g := ⟨_, rfl⟩
    rw [hg]
    refine wp_world (fun V => Below w.heap.size w V ∧ Blk V gtn 24 #[.int .i64 tn.kind, .int .i64 tn.int, .string ⟨tn.name.toArray⟩, .slice Atn ntn ctn] ∧ TVal V (.agg #[.int .i64 tn.kind, .int .i64 tn.int, .string ⟨tn.name.toArray⟩, .slice Atn ntn ctn]) tn ∧ Blk V gto 24 #[.int .i64 to.kind, .int .i64 to.int, .string ⟨to.name.toArray⟩, .slice Ato nto cto] ∧ TVal V (.agg #[.int .i64 to.kind, .int .i64 to.int, .string ⟨to.name.toArray⟩, .slice Ato nto cto]) to) ⟨below_step (below_step HB.out hb2) (below_alloc _ _), (HKtn.out.keep hb2).alloc _, (HTtn.out.below hb2).below (below_alloc _ _), by rw [← hg]; exact Blk.new _ _ _, hT2.below (below_alloc _ _)⟩ ?_
    clear hg hT2 hb2 HB qtn0 qtn1 qtn2 qtn3 qtk0 qtk1 qtk2 qtk3 qtl0 qtl1 qtl2 qtl3 HKtn HTtn HKtk HTtk HKtl HTtl
    rintro V14 ⟨hb, hktn, httn, hkto, htto⟩
    have HB := Lib.hid hb
    have HKtn := Lib.hid hktn
    have HTtn := Lib.hid httn
    have qtn0 := hktn.cell 0
    have qtn1 := hktn.cell 1
    have qtn2 := hktn.cell 2
    have qtn3 := hktn.cell 3
    have HKto := Lib.hid hkto
    have HTto := Lib.hid htto
    have qto0 := hkto.cell 0
    have qto1 := hkto.cell 1
    have qto2 := hkto.cell 2
    have qto3 := hkto.cell 3
    clear hb hktn httn hkto htto
    have HSA := Lib.hid (same_v HTtn.out HTto.out)
    rw [show (tn.cmp to == 0) = true by rw [HQ.out, (TV.cmp_zero to to).2 rfl]; rfl] at HSA
    go_wp2_with (first
      | (go_at_call 11; refine HSA.out.mono ?_; rintro e w1 ⟨rfl, hb2⟩)
      | (go_at_call 8; refine (live_from (below_step HB.out hb2)).mono ?_; rintro e w9 ⟨rfl, hb9⟩))
    go_ret
    exact ⟨rfl, hb9⟩
  · have HDtd := Lib.hid hd
    have HDtr := Lib.hid hr
    have hlim : sLim = [115, 121, 115, 116, 101, 109, 95, 108, 105, 109, 105, 116] := rfl
    clear hd hr
    obtain ⟨td, htd⟩ : ∃ z, tZ = z := ⟨_, rfl⟩
    rw [htd] at HDtd
    clear htd
    go_upto_region 8 with (go_at_call 9; refine (do2_at HTta.out HTtb.out HGta.out HGtb.out HDtd.out (by simp)).mono ?_; rintro e w2 ⟨u, rfl, hT2, hb2⟩; obtain ⟨Atd, ntd, ctd, rfl, hn⟩ := hT2.form; clear hn)
    obtain ⟨gtd, hg⟩ : ∃ g, w2.heap.size = g := ⟨_, rfl⟩
    rw [hg]
    refine wp_world (fun V => Below w.heap.size w V ∧ Blk V w.heap.size 24 #[.int .i64 ta.kind, .int .i64 ta.int, .string ⟨ta.name.toArray⟩, .slice Ata nta cta] ∧ TVal V (.agg #[.int .i64 ta.kind, .int .i64 ta.int, .string ⟨ta.name.toArray⟩, .slice Ata nta cta]) ta ∧ Blk V (w.heap.size + 1) 24 #[.int .i64 tb.kind, .int .i64 tb.int, .string ⟨tb.name.toArray⟩, .slice Atb ntb ctb] ∧ TVal V (.agg #[.int .i64 tb.kind, .int .i64 tb.int, .string ⟨tb.name.toArray⟩, .slice Atb ntb ctb]) tb ∧ Blk V gtd 24 #[.int .i64 td.kind, .int .i64 td.int, .string ⟨td.name.toArray⟩, .slice Atd ntd ctd] ∧ TVal V (.agg #[.int .i64 td.kind, .int .i64 td.int, .string ⟨td.name.toArray⟩, .slice Atd ntd ctd]) td) ⟨below_step (below_step HB.out hb2) (below_alloc _ _), (HKta.out.keep hb2).alloc _, (HTta.out.below hb2).below (below_alloc _ _), (HKtb.out.keep hb2).alloc _, (HTtb.out.below hb2).below (below_alloc _ _), by rw [← hg]; exact Blk.new _ _ _, hT2.below (below_alloc _ _)⟩ ?_
    clear hg hT2 hb2 HB qta0 qta1 qta2 qta3 qtb0 qtb1 qtb2 qtb3 HKta HTta HKtb HTtb
    rintro V6 ⟨hb, hkta, htta, hktb, httb, hktd, httd⟩
    have HB := Lib.hid hb
    have HKta := Lib.hid hkta
    have HTta := Lib.hid htta
    have qta0 := hkta.cell 0
    have qta1 := hkta.cell 1
    have qta2 := hkta.cell 2
    have qta3 := hkta.cell 3
    have HKtb := Lib.hid hktb
    have HTtb := Lib.hid httb
    have qtb0 := hktb.cell 0
    have qtb1 := hktb.cell 1
    have qtb2 := hktb.cell 2
    have qtb3 := hktb.cell 3
    have HKtd := Lib.hid hktd
    have HTtd := Lib.hid httd
    have qtd0 := hktd.cell 0
    have qtd1 := hktd.cell 1
    have qtd2 := hktd.cell 2
    have qtd3 := hktd.cell 3
    clear hb hkta htta hktb httb hktd httd
    go_upto_region 9 with (go_at_call 9; refine (do2_at HTta.out HTtb.out HGta.out HGtb.out HDtr.out (by simp)).mono ?_; rintro e w2 ⟨u, rfl, hT2, hb2⟩; obtain ⟨Atr, ntr, ctr, rfl, hn⟩ := hT2.form; clear hn)
    obtain ⟨gtr, hg⟩ : ∃ g, w2.heap.size = g := ⟨_, rfl⟩
    rw [hg]
    refine wp_world (fun V => Below w.heap.size w V ∧ Blk V w.heap.size 24 #[.int .i64 ta.kind, .int .i64 ta.int, .string ⟨ta.name.toArray⟩, .slice Ata nta cta] ∧ TVal V (.agg #[.int .i64 ta.kind, .int .i64 ta.int, .string ⟨ta.name.toArray⟩, .slice Ata nta cta]) ta ∧ Blk V (w.heap.size + 1) 24 #[.int .i64 tb.kind, .int .i64 tb.int, .string ⟨tb.name.toArray⟩, .slice Atb ntb ctb] ∧ TVal V (.agg #[.int .i64 tb.kind, .int .i64 tb.int, .string ⟨tb.name.toArray⟩, .slice Atb ntb ctb]) tb ∧ Blk V gtd 24 #[.int .i64 td.kind, .int .i64 td.int, .string ⟨td.name.toArray⟩, .slice Atd ntd ctd] ∧ TVal V (.agg #[.int .i64 td.kind, .int .i64 td.int, .string ⟨td.name.toArray⟩, .slice Atd ntd ctd]) td ∧ Blk V gtr 24 #[.int .i64 tr.kind, .int .i64 tr.int, .string ⟨tr.name.toArray⟩, .slice Atr ntr ctr] ∧ TVal V (.agg #[.int .i64 tr.kind, .int .i64 tr.int, .string ⟨tr.name.toArray⟩, .slice Atr ntr ctr]) tr) ⟨below_step (below_step HB.out hb2) (below_alloc _ _), (HKta.out.keep hb2).alloc _, (HTta.out.below hb2).below (below_alloc _ _), (HKtb.out.keep hb2).alloc _, (HTtb.out.below hb2).below (below_alloc _ _), (HKtd.out.keep hb2).alloc _, (HTtd.out.below hb2).below (below_alloc _ _), by rw [← hg]; exact Blk.new _ _ _, hT2.below (below_alloc _ _)⟩ ?_
    clear hg hT2 hb2 HB qta0 qta1 qta2 qta3 qtb0 qtb1 qtb2 qtb3 qtd0 qtd1 qtd2 qtd3 HKta HTta HKtb HTtb HKtd HTtd
    rintro V7 ⟨hb, hkta, htta, hktb, httb, hktd, httd, hktr, httr⟩
    have HB := Lib.hid hb
    have HKta := Lib.hid hkta
    have HTta := Lib.hid htta
    have qta0 := hkta.cell 0
    have qta1 := hkta.cell 1
    have qta2 := hkta.cell 2
    have qta3 := hkta.cell 3
    have HKtb := Lib.hid hktb
    have HTtb := Lib.hid httb
    have qtb0 := hktb.cell 0
    have qtb1 := hktb.cell 1
    have qtb2 := hktb.cell 2
    have qtb3 := hktb.cell 3
    have HKtd := Lib.hid hktd
    have HTtd := Lib.hid httd
    have qtd0 := hktd.cell 0
    have qtd1 := hktd.cell 1
    have qtd2 := hktd.cell 2
    have qtd3 := hktd.cell 3
    have HKtr := Lib.hid hktr
    have HTtr := Lib.hid httr
    have qtr0 := hktr.cell 0
    have qtr1 := hktr.cell 1
    have qtr2 := hktr.cell 2
    have qtr3 := hktr.cell 3
    clear hb hkta htta hktb httb hktd httd hktr httr
    go_upto_region 16 with (fail)
    have hb2 := Below.refl V7.heap.size V7
    refine wp_world (fun V => Below w.heap.size w V) (below_step HB.out hb2) ?_
    clear hb2 HB qta0 qta1 qta2 qta3 qtb0 qtb1 qtb2 qtb3 qtd0 qtd1 qtd2 qtd3 qtr0 qtr1 qtr2 qtr3 HKta HTta HKtb HTtb HKtd HTtd HKtr HTtr
    rintro V8 hb
    have HB := Lib.hid hb
    clear hb 
    go_upto_region 17 with (first
      | (go_at_call 12; (with_reducible refine (HLX.out _).mono ?_); rintro e wu ⟨Atu, ntu, ctu, rfl, hTu, hbu⟩)
      | (go_at_call 12; (with_reducible refine (HLY.out _).mono ?_); rintro e wv ⟨Atv, ntv, ctv, rfl, hTv, hbv⟩))
    obtain ⟨gtu, hgu⟩ : ∃ g, wv.heap.size = g := ⟨_, rfl⟩
    rw [hgu]
    have hb2 := below_step hbu hbv
    refine wp_world (fun V => Below w.heap.size w V ∧ Blk V gtu 24 #[.int .i64 tu.kind, .int .i64 tu.int, .string ⟨tu.name.toArray⟩, .slice Atu ntu ctu] ∧ TVal V (.agg #[.int .i64 tu.kind, .int .i64 tu.int, .string ⟨tu.name.toArray⟩, .slice Atu ntu ctu]) tu ∧ Blk V (gtu + 1) 24 #[.int .i64 tv.kind, .int .i64 tv.int, .string ⟨tv.name.toArray⟩, .slice Atv ntv ctv] ∧ TVal V (.agg #[.int .i64 tv.kind, .int .i64 tv.int, .string ⟨tv.name.toArray⟩, .slice Atv ntv ctv]) tv) ⟨below_step (below_step (below_step HB.out hb2) (below_alloc _ _)) (below_alloc _ _), by rw [← hgu]; exact (Blk.new _ _ _).alloc _, ((hTu.below hbv).below (below_alloc _ _)).below (below_alloc _ _), by rw [← hgu]; exact Blk.newAt (by simp), (hTv.below (below_alloc _ _)).below (below_alloc _ _)⟩ ?_
    rintro V9 ⟨hb, hktu, httu, hktv, httv⟩
    have HB := Lib.hid hb
    have HKtu := Lib.hid hktu
    have HTtu := Lib.hid httu
    have qtu0 := hktu.cell 0
    have qtu1 := hktu.cell 1
    have qtu2 := hktu.cell 2
    have qtu3 := hktu.cell 3
    have HKtv := Lib.hid hktv
    have HTtv := Lib.hid httv
    have qtv0 := hktv.cell 0
    have qtv1 := hktv.cell 1
    have qtv2 := hktv.cell 2
    have qtv3 := hktv.cell 3
    clear hb hktu httu hktv httv
    clear hbu hbv hTu hTv hgu hb2
    go_upto_region 18 with (go_at_call 9; refine (do2_at HTtu.out HTtv.out HGtu.out HGtv.out HDtw.out (by simp)).mono ?_; rintro e w2 ⟨u, rfl, hT2, hb2⟩; obtain ⟨Atw, ntw, ctw, rfl, hn⟩ := hT2.form; clear hn)
    obtain ⟨gtw, hg⟩ : ∃ g, w2.heap.size = g := ⟨_, rfl⟩
    rw [hg]
    refine wp_world (fun V => Below w.heap.size w V ∧ Blk V gtu 24 #[.int .i64 tu.kind, .int .i64 tu.int, .string ⟨tu.name.toArray⟩, .slice Atu ntu ctu] ∧ TVal V (.agg #[.int .i64 tu.kind, .int .i64 tu.int, .string ⟨tu.name.toArray⟩, .slice Atu ntu ctu]) tu ∧ Blk V (gtu + 1) 24 #[.int .i64 tv.kind, .int .i64 tv.int, .string ⟨tv.name.toArray⟩, .slice Atv ntv ctv] ∧ TVal V (.agg #[.int .i64 tv.kind, .int .i64 tv.int, .string ⟨tv.name.toArray⟩, .slice Atv ntv ctv]) tv ∧ Blk V gtw 24 #[.int .i64 tw.kind, .int .i64 tw.int, .string ⟨tw.name.toArray⟩, .slice Atw ntw ctw] ∧ TVal V (.agg #[.int .i64 tw.kind, .int .i64 tw.int, .string ⟨tw.name.toArray⟩, .slice Atw ntw ctw]) tw) ⟨below_step (below_step HB.out hb2) (below_alloc _ _), (HKtu.out.keep hb2).alloc _, (HTtu.out.below hb2).below (below_alloc _ _), (HKtv.out.keep hb2).alloc _, (HTtv.out.below hb2).below (below_alloc _ _), by rw [← hg]; exact Blk.new _ _ _, hT2.below (below_alloc _ _)⟩ ?_
    clear hg hT2 hb2 HB qtu0 qtu1 qtu2 qtu3 qtv0 qtv1 qtv2 qtv3 HKtu HTtu HKtv HTtv
    rintro V10 ⟨hb, hktu, httu, hktv, httv, hktw, httw⟩
    have HB := Lib.hid hb
    have HKtu := Lib.hid hktu
    have HTtu := Lib.hid httu
    have qtu0 := hktu.cell 0
    have qtu1 := hktu.cell 1
    have qtu2 := hktu.cell 2
    have qtu3 := hktu.cell 3
    have HKtv := Lib.hid hktv
    have HTtv := Lib.hid httv
    have qtv0 := hktv.cell 0
    have qtv1 := hktv.cell 1
    have qtv2 := hktv.cell 2
    have qtv3 := hktv.cell 3
    have HKtw := Lib.hid hktw
    have HTtw := Lib.hid httw
    have qtw0 := hktw.cell 0
    have qtw1 := hktw.cell 1
    have qtw2 := hktw.cell 2
    have qtw3 := hktw.cell 3
    clear hb hktu httu hktv httv hktw httw
    go_upto_region 19 with (go_at_call 9; refine (do1_at HTtw.out HGtw.out HDtn.out (by simp)).mono ?_; rintro e w2 ⟨u, rfl, hT2, hb2⟩; obtain ⟨Atn, ntn, ctn, rfl, hn⟩ := hT2.form; clear hn)
    obtain ⟨gtn, hg⟩ : ∃ g, w2.heap.size = g := ⟨_, rfl⟩
    rw [hg]
    refine wp_world (fun V => Below w.heap.size w V ∧ Blk V gtu 24 #[.int .i64 tu.kind, .int .i64 tu.int, .string ⟨tu.name.toArray⟩, .slice Atu ntu ctu] ∧ TVal V (.agg #[.int .i64 tu.kind, .int .i64 tu.int, .string ⟨tu.name.toArray⟩, .slice Atu ntu ctu]) tu ∧ Blk V (gtu + 1) 24 #[.int .i64 tv.kind, .int .i64 tv.int, .string ⟨tv.name.toArray⟩, .slice Atv ntv ctv] ∧ TVal V (.agg #[.int .i64 tv.kind, .int .i64 tv.int, .string ⟨tv.name.toArray⟩, .slice Atv ntv ctv]) tv ∧ Blk V gtn 24 #[.int .i64 tn.kind, .int .i64 tn.int, .string ⟨tn.name.toArray⟩, .slice Atn ntn ctn] ∧ TVal V (.agg #[.int .i64 tn.kind, .int .i64 tn.int, .string ⟨tn.name.toArray⟩, .slice Atn ntn ctn]) tn) ⟨below_step (below_step HB.out hb2) (below_alloc _ _), (HKtu.out.keep hb2).alloc _, (HTtu.out.below hb2).below (below_alloc _ _), (HKtv.out.keep hb2).alloc _, (HTtv.out.below hb2).below (below_alloc _ _), by rw [← hg]; exact Blk.new _ _ _, hT2.below (below_alloc _ _)⟩ ?_
    clear hg hT2 hb2 HB qtu0 qtu1 qtu2 qtu3 qtv0 qtv1 qtv2 qtv3 qtw0 qtw1 qtw2 qtw3 HKtu HTtu HKtv HTtv HKtw HTtw
    rintro V11 ⟨hb, hktu, httu, hktv, httv, hktn, httn⟩
    have HB := Lib.hid hb
    have HKtu := Lib.hid hktu
    have HTtu := Lib.hid httu
    have qtu0 := hktu.cell 0
    have qtu1 := hktu.cell 1
    have qtu2 := hktu.cell 2
    have qtu3 := hktu.cell 3
    have HKtv := Lib.hid hktv
    have HTtv := Lib.hid httv
    have qtv0 := hktv.cell 0
    have qtv1 := hktv.cell 1
    have qtv2 := hktv.cell 2
    have qtv3 := hktv.cell 3
    have HKtn := Lib.hid hktn
    have HTtn := Lib.hid httn
    have qtn0 := hktn.cell 0
    have qtn1 := hktn.cell 1
    have qtn2 := hktn.cell 2
    have qtn3 := hktn.cell 3
    clear hb hktu httu hktv httv hktn httn
    go_upto_region 20 with (go_at_call 9; refine (do1_at HTtu.out HGtu.out HDtk.out (by simp)).mono ?_; rintro e w2 ⟨u, rfl, hT2, hb2⟩; obtain ⟨Atk, ntk, ctk, rfl, hn⟩ := hT2.form; clear hn)
    obtain ⟨gtk, hg⟩ : ∃ g, w2.heap.size = g := ⟨_, rfl⟩
    rw [hg]
    refine wp_world (fun V => Below w.heap.size w V ∧ Blk V (gtu + 1) 24 #[.int .i64 tv.kind, .int .i64 tv.int, .string ⟨tv.name.toArray⟩, .slice Atv ntv ctv] ∧ TVal V (.agg #[.int .i64 tv.kind, .int .i64 tv.int, .string ⟨tv.name.toArray⟩, .slice Atv ntv ctv]) tv ∧ Blk V gtn 24 #[.int .i64 tn.kind, .int .i64 tn.int, .string ⟨tn.name.toArray⟩, .slice Atn ntn ctn] ∧ TVal V (.agg #[.int .i64 tn.kind, .int .i64 tn.int, .string ⟨tn.name.toArray⟩, .slice Atn ntn ctn]) tn ∧ Blk V gtk 24 #[.int .i64 tk.kind, .int .i64 tk.int, .string ⟨tk.name.toArray⟩, .slice Atk ntk ctk] ∧ TVal V (.agg #[.int .i64 tk.kind, .int .i64 tk.int, .string ⟨tk.name.toArray⟩, .slice Atk ntk ctk]) tk) ⟨below_step (below_step HB.out hb2) (below_alloc _ _), (HKtv.out.keep hb2).alloc _, (HTtv.out.below hb2).below (below_alloc _ _), (HKtn.out.keep hb2).alloc _, (HTtn.out.below hb2).below (below_alloc _ _), by rw [← hg]; exact Blk.new _ _ _, hT2.below (below_alloc _ _)⟩ ?_
    clear hg hT2 hb2 HB qtu0 qtu1 qtu2 qtu3 qtv0 qtv1 qtv2 qtv3 qtn0 qtn1 qtn2 qtn3 HKtu HTtu HKtv HTtv HKtn HTtn
    rintro V12 ⟨hb, hktv, httv, hktn, httn, hktk, httk⟩
    have HB := Lib.hid hb
    have HKtv := Lib.hid hktv
    have HTtv := Lib.hid httv
    have qtv0 := hktv.cell 0
    have qtv1 := hktv.cell 1
    have qtv2 := hktv.cell 2
    have qtv3 := hktv.cell 3
    have HKtn := Lib.hid hktn
    have HTtn := Lib.hid httn
    have qtn0 := hktn.cell 0
    have qtn1 := hktn.cell 1
    have qtn2 := hktn.cell 2
    have qtn3 := hktn.cell 3
    have HKtk := Lib.hid hktk
    have HTtk := Lib.hid httk
    have qtk0 := hktk.cell 0
    have qtk1 := hktk.cell 1
    have qtk2 := hktk.cell 2
    have qtk3 := hktk.cell 3
    clear hb hktv httv hktn httn hktk httk
    go_upto_region 21 with (go_at_call 9; refine (do1_at HTtv.out HGtv.out HDtl.out (by simp)).mono ?_; rintro e w2 ⟨u, rfl, hT2, hb2⟩; obtain ⟨Atl, ntl, ctl, rfl, hn⟩ := hT2.form; clear hn)
    obtain ⟨gtl, hg⟩ : ∃ g, w2.heap.size = g := ⟨_, rfl⟩
    rw [hg]
    refine wp_world (fun V => Below w.heap.size w V ∧ Blk V gtn 24 #[.int .i64 tn.kind, .int .i64 tn.int, .string ⟨tn.name.toArray⟩, .slice Atn ntn ctn] ∧ TVal V (.agg #[.int .i64 tn.kind, .int .i64 tn.int, .string ⟨tn.name.toArray⟩, .slice Atn ntn ctn]) tn ∧ Blk V gtk 24 #[.int .i64 tk.kind, .int .i64 tk.int, .string ⟨tk.name.toArray⟩, .slice Atk ntk ctk] ∧ TVal V (.agg #[.int .i64 tk.kind, .int .i64 tk.int, .string ⟨tk.name.toArray⟩, .slice Atk ntk ctk]) tk ∧ Blk V gtl 24 #[.int .i64 tl.kind, .int .i64 tl.int, .string ⟨tl.name.toArray⟩, .slice Atl ntl ctl] ∧ TVal V (.agg #[.int .i64 tl.kind, .int .i64 tl.int, .string ⟨tl.name.toArray⟩, .slice Atl ntl ctl]) tl) ⟨below_step (below_step HB.out hb2) (below_alloc _ _), (HKtn.out.keep hb2).alloc _, (HTtn.out.below hb2).below (below_alloc _ _), (HKtk.out.keep hb2).alloc _, (HTtk.out.below hb2).below (below_alloc _ _), by rw [← hg]; exact Blk.new _ _ _, hT2.below (below_alloc _ _)⟩ ?_
    clear hg hT2 hb2 HB qtv0 qtv1 qtv2 qtv3 qtn0 qtn1 qtn2 qtn3 qtk0 qtk1 qtk2 qtk3 HKtv HTtv HKtn HTtn HKtk HTtk
    rintro V13 ⟨hb, hktn, httn, hktk, httk, hktl, httl⟩
    have HB := Lib.hid hb
    have HKtn := Lib.hid hktn
    have HTtn := Lib.hid httn
    have qtn0 := hktn.cell 0
    have qtn1 := hktn.cell 1
    have qtn2 := hktn.cell 2
    have qtn3 := hktn.cell 3
    have HKtk := Lib.hid hktk
    have HTtk := Lib.hid httk
    have qtk0 := hktk.cell 0
    have qtk1 := hktk.cell 1
    have qtk2 := hktk.cell 2
    have qtk3 := hktk.cell 3
    have HKtl := Lib.hid hktl
    have HTtl := Lib.hid httl
    have qtl0 := hktl.cell 0
    have qtl1 := hktl.cell 1
    have qtl2 := hktl.cell 2
    have qtl3 := hktl.cell 3
    clear hb hktn httn hktk httk hktl httl
    obtain ⟨to, hto⟩ : ∃ z, tn = z := ⟨_, rfl⟩
    have HQ := Lib.hid hto
    rw [show (tn, ([] : List UInt8)) = (to, []) by rw [hto]] at HDto
    clear hto
    go_upto_region 22 with (go_at_call 9; refine (do2_at HTtk.out HTtl.out HGtk.out HGtl.out HDto.out (by simp)).mono ?_; rintro e w2 ⟨u, rfl, hT2, hb2⟩; obtain ⟨Ato, nto, cto, rfl, hn⟩ := hT2.form; clear hn)
    obtain ⟨gto, hg⟩ : ∃ g, w2.heap.size = g := ⟨_, rfl⟩
    rw [hg]
    refine wp_world (fun V => Below w.heap.size w V ∧ Blk V gtn 24 #[.int .i64 tn.kind, .int .i64 tn.int, .string ⟨tn.name.toArray⟩, .slice Atn ntn ctn] ∧ TVal V (.agg #[.int .i64 tn.kind, .int .i64 tn.int, .string ⟨tn.name.toArray⟩, .slice Atn ntn ctn]) tn ∧ Blk V gto 24 #[.int .i64 to.kind, .int .i64 to.int, .string ⟨to.name.toArray⟩, .slice Ato nto cto] ∧ TVal V (.agg #[.int .i64 to.kind, .int .i64 to.int, .string ⟨to.name.toArray⟩, .slice Ato nto cto]) to) ⟨below_step (below_step HB.out hb2) (below_alloc _ _), (HKtn.out.keep hb2).alloc _, (HTtn.out.below hb2).below (below_alloc _ _), by rw [← hg]; exact Blk.new _ _ _, hT2.below (below_alloc _ _)⟩ ?_
    clear hg hT2 hb2 HB qtn0 qtn1 qtn2 qtn3 qtk0 qtk1 qtk2 qtk3 qtl0 qtl1 qtl2 qtl3 HKtn HTtn HKtk HTtk HKtl HTtl
    rintro V14 ⟨hb, hktn, httn, hkto, htto⟩
    have HB := Lib.hid hb
    have HKtn := Lib.hid hktn
    have HTtn := Lib.hid httn
    have qtn0 := hktn.cell 0
    have qtn1 := hktn.cell 1
    have qtn2 := hktn.cell 2
    have qtn3 := hktn.cell 3
    have HKto := Lib.hid hkto
    have HTto := Lib.hid htto
    have qto0 := hkto.cell 0
    have qto1 := hkto.cell 1
    have qto2 := hkto.cell 2
    have qto3 := hkto.cell 3
    clear hb hktn httn hkto htto
    have HSA := Lib.hid (same_v HTtn.out HTto.out)
    rw [show (tn.cmp to == 0) = true by rw [HQ.out, (TV.cmp_zero to to).2 rfl]; rfl] at HSA
    go_wp2_with (first
      | (go_at_call 11; refine HSA.out.mono ?_; rintro e w1 ⟨rfl, hb2⟩)
      | (go_at_call 8; refine (live_from (below_step HB.out hb2)).mono ?_; rintro e w9 ⟨rfl, hb9⟩))
    go_ret
    exact ⟨rfl, hb9⟩
  · have HDtd := Lib.hid hd
    have HDtr := Lib.hid hr
    have HDtm := Lib.hid hm
    have HDts := Lib.hid hs
    have HGtd := Lib.hid gd
    have HGtr := Lib.hid gr
    have HGtm := Lib.hid gm
    clear hd hr hm hs gd gr gm
    go_upto_region 8 with (go_at_call 9; refine (do2_at HTta.out HTtb.out HGta.out HGtb.out HDtd.out (by simp)).mono ?_; rintro e w2 ⟨u, rfl, hT2, hb2⟩; obtain ⟨Atd, ntd, ctd, rfl, hn⟩ := hT2.form; clear hn)
    obtain ⟨gtd, hg⟩ : ∃ g, w2.heap.size = g := ⟨_, rfl⟩
    rw [hg]
    refine wp_world (fun V => Below w.heap.size w V ∧ Blk V w.heap.size 24 #[.int .i64 ta.kind, .int .i64 ta.int, .string ⟨ta.name.toArray⟩, .slice Ata nta cta] ∧ TVal V (.agg #[.int .i64 ta.kind, .int .i64 ta.int, .string ⟨ta.name.toArray⟩, .slice Ata nta cta]) ta ∧ Blk V (w.heap.size + 1) 24 #[.int .i64 tb.kind, .int .i64 tb.int, .string ⟨tb.name.toArray⟩, .slice Atb ntb ctb] ∧ TVal V (.agg #[.int .i64 tb.kind, .int .i64 tb.int, .string ⟨tb.name.toArray⟩, .slice Atb ntb ctb]) tb ∧ Blk V gtd 24 #[.int .i64 td.kind, .int .i64 td.int, .string ⟨td.name.toArray⟩, .slice Atd ntd ctd] ∧ TVal V (.agg #[.int .i64 td.kind, .int .i64 td.int, .string ⟨td.name.toArray⟩, .slice Atd ntd ctd]) td) ⟨below_step (below_step HB.out hb2) (below_alloc _ _), (HKta.out.keep hb2).alloc _, (HTta.out.below hb2).below (below_alloc _ _), (HKtb.out.keep hb2).alloc _, (HTtb.out.below hb2).below (below_alloc _ _), by rw [← hg]; exact Blk.new _ _ _, hT2.below (below_alloc _ _)⟩ ?_
    clear hg hT2 hb2 HB qta0 qta1 qta2 qta3 qtb0 qtb1 qtb2 qtb3 HKta HTta HKtb HTtb
    rintro V6 ⟨hb, hkta, htta, hktb, httb, hktd, httd⟩
    have HB := Lib.hid hb
    have HKta := Lib.hid hkta
    have HTta := Lib.hid htta
    have qta0 := hkta.cell 0
    have qta1 := hkta.cell 1
    have qta2 := hkta.cell 2
    have qta3 := hkta.cell 3
    have HKtb := Lib.hid hktb
    have HTtb := Lib.hid httb
    have qtb0 := hktb.cell 0
    have qtb1 := hktb.cell 1
    have qtb2 := hktb.cell 2
    have qtb3 := hktb.cell 3
    have HKtd := Lib.hid hktd
    have HTtd := Lib.hid httd
    have qtd0 := hktd.cell 0
    have qtd1 := hktd.cell 1
    have qtd2 := hktd.cell 2
    have qtd3 := hktd.cell 3
    clear hb hkta htta hktb httb hktd httd
    go_upto_region 9 with (go_at_call 9; refine (do2_at HTta.out HTtb.out HGta.out HGtb.out HDtr.out (by simp)).mono ?_; rintro e w2 ⟨u, rfl, hT2, hb2⟩; obtain ⟨Atr, ntr, ctr, rfl, hn⟩ := hT2.form; clear hn)
    obtain ⟨gtr, hg⟩ : ∃ g, w2.heap.size = g := ⟨_, rfl⟩
    rw [hg]
    refine wp_world (fun V => Below w.heap.size w V ∧ Blk V w.heap.size 24 #[.int .i64 ta.kind, .int .i64 ta.int, .string ⟨ta.name.toArray⟩, .slice Ata nta cta] ∧ TVal V (.agg #[.int .i64 ta.kind, .int .i64 ta.int, .string ⟨ta.name.toArray⟩, .slice Ata nta cta]) ta ∧ Blk V (w.heap.size + 1) 24 #[.int .i64 tb.kind, .int .i64 tb.int, .string ⟨tb.name.toArray⟩, .slice Atb ntb ctb] ∧ TVal V (.agg #[.int .i64 tb.kind, .int .i64 tb.int, .string ⟨tb.name.toArray⟩, .slice Atb ntb ctb]) tb ∧ Blk V gtd 24 #[.int .i64 td.kind, .int .i64 td.int, .string ⟨td.name.toArray⟩, .slice Atd ntd ctd] ∧ TVal V (.agg #[.int .i64 td.kind, .int .i64 td.int, .string ⟨td.name.toArray⟩, .slice Atd ntd ctd]) td ∧ Blk V gtr 24 #[.int .i64 tr.kind, .int .i64 tr.int, .string ⟨tr.name.toArray⟩, .slice Atr ntr ctr] ∧ TVal V (.agg #[.int .i64 tr.kind, .int .i64 tr.int, .string ⟨tr.name.toArray⟩, .slice Atr ntr ctr]) tr) ⟨below_step (below_step HB.out hb2) (below_alloc _ _), (HKta.out.keep hb2).alloc _, (HTta.out.below hb2).below (below_alloc _ _), (HKtb.out.keep hb2).alloc _, (HTtb.out.below hb2).below (below_alloc _ _), (HKtd.out.keep hb2).alloc _, (HTtd.out.below hb2).below (below_alloc _ _), by rw [← hg]; exact Blk.new _ _ _, hT2.below (below_alloc _ _)⟩ ?_
    clear hg hT2 hb2 HB qta0 qta1 qta2 qta3 qtb0 qtb1 qtb2 qtb3 qtd0 qtd1 qtd2 qtd3 HKta HTta HKtb HTtb HKtd HTtd
    rintro V7 ⟨hb, hkta, htta, hktb, httb, hktd, httd, hktr, httr⟩
    have HB := Lib.hid hb
    have HKta := Lib.hid hkta
    have HTta := Lib.hid htta
    have qta0 := hkta.cell 0
    have qta1 := hkta.cell 1
    have qta2 := hkta.cell 2
    have qta3 := hkta.cell 3
    have HKtb := Lib.hid hktb
    have HTtb := Lib.hid httb
    have qtb0 := hktb.cell 0
    have qtb1 := hktb.cell 1
    have qtb2 := hktb.cell 2
    have qtb3 := hktb.cell 3
    have HKtd := Lib.hid hktd
    have HTtd := Lib.hid httd
    have qtd0 := hktd.cell 0
    have qtd1 := hktd.cell 1
    have qtd2 := hktd.cell 2
    have qtd3 := hktd.cell 3
    have HKtr := Lib.hid hktr
    have HTtr := Lib.hid httr
    have qtr0 := hktr.cell 0
    have qtr1 := hktr.cell 1
    have qtr2 := hktr.cell 2
    have qtr3 := hktr.cell 3
    clear hb hkta htta hktb httb hktd httd hktr httr
    have hcat : (⟨#[]⟩ : ByteArray) ++ ⟨#[]⟩ = ⟨#[]⟩ := by rfl
    go_upto_region 13 with (go_at_call 9; refine (do2_at HTtb.out HTtd.out HGtb.out HGtd.out HDtm.out (by simp)).mono ?_; rintro e w2 ⟨u, rfl, hT2, hb2⟩; obtain ⟨Atm, ntm, ctm, rfl, hn⟩ := hT2.form; clear hn)
    obtain ⟨gtm, hg⟩ : ∃ g, w2.heap.size = g := ⟨_, rfl⟩
    rw [hg]
    refine wp_world (fun V => Below w.heap.size w V ∧ Blk V w.heap.size 24 #[.int .i64 ta.kind, .int .i64 ta.int, .string ⟨ta.name.toArray⟩, .slice Ata nta cta] ∧ TVal V (.agg #[.int .i64 ta.kind, .int .i64 ta.int, .string ⟨ta.name.toArray⟩, .slice Ata nta cta]) ta ∧ Blk V gtr 24 #[.int .i64 tr.kind, .int .i64 tr.int, .string ⟨tr.name.toArray⟩, .slice Atr ntr ctr] ∧ TVal V (.agg #[.int .i64 tr.kind, .int .i64 tr.int, .string ⟨tr.name.toArray⟩, .slice Atr ntr ctr]) tr ∧ Blk V gtm 24 #[.int .i64 tm.kind, .int .i64 tm.int, .string ⟨tm.name.toArray⟩, .slice Atm ntm ctm] ∧ TVal V (.agg #[.int .i64 tm.kind, .int .i64 tm.int, .string ⟨tm.name.toArray⟩, .slice Atm ntm ctm]) tm) ⟨below_step (below_step HB.out hb2) (below_alloc _ _), (HKta.out.keep hb2).alloc _, (HTta.out.below hb2).below (below_alloc _ _), (HKtr.out.keep hb2).alloc _, (HTtr.out.below hb2).below (below_alloc _ _), by rw [← hg]; exact Blk.new _ _ _, hT2.below (below_alloc _ _)⟩ ?_
    clear hg hT2 hb2 HB qta0 qta1 qta2 qta3 qtb0 qtb1 qtb2 qtb3 qtd0 qtd1 qtd2 qtd3 qtr0 qtr1 qtr2 qtr3 HKta HTta HKtb HTtb HKtd HTtd HKtr HTtr
    rintro V8 ⟨hb, hkta, htta, hktr, httr, hktm, httm⟩
    have HB := Lib.hid hb
    have HKta := Lib.hid hkta
    have HTta := Lib.hid htta
    have qta0 := hkta.cell 0
    have qta1 := hkta.cell 1
    have qta2 := hkta.cell 2
    have qta3 := hkta.cell 3
    have HKtr := Lib.hid hktr
    have HTtr := Lib.hid httr
    have qtr0 := hktr.cell 0
    have qtr1 := hktr.cell 1
    have qtr2 := hktr.cell 2
    have qtr3 := hktr.cell 3
    have HKtm := Lib.hid hktm
    have HTtm := Lib.hid httm
    have qtm0 := hktm.cell 0
    have qtm1 := hktm.cell 1
    have qtm2 := hktm.cell 2
    have qtm3 := hktm.cell 3
    clear hb hkta htta hktr httr hktm httm
    obtain ⟨ts, hts⟩ : ∃ z, ta = z := ⟨_, rfl⟩
    have HQ := Lib.hid hts
    rw [show (ta, ([] : List UInt8)) = (ts, []) by rw [hts]] at HDts
    clear hts
    go_upto_region 14 with (go_at_call 9; refine (do2_at HTtm.out HTtr.out HGtm.out HGtr.out HDts.out (by simp)).mono ?_; rintro e w2 ⟨u, rfl, hT2, hb2⟩; obtain ⟨Ats, nts, cts, rfl, hn⟩ := hT2.form; clear hn)
    obtain ⟨gts, hg⟩ : ∃ g, w2.heap.size = g := ⟨_, rfl⟩
    rw [hg]
    refine wp_world (fun V => Below w.heap.size w V ∧ Blk V w.heap.size 24 #[.int .i64 ta.kind, .int .i64 ta.int, .string ⟨ta.name.toArray⟩, .slice Ata nta cta] ∧ TVal V (.agg #[.int .i64 ta.kind, .int .i64 ta.int, .string ⟨ta.name.toArray⟩, .slice Ata nta cta]) ta ∧ Blk V gts 24 #[.int .i64 ts.kind, .int .i64 ts.int, .string ⟨ts.name.toArray⟩, .slice Ats nts cts] ∧ TVal V (.agg #[.int .i64 ts.kind, .int .i64 ts.int, .string ⟨ts.name.toArray⟩, .slice Ats nts cts]) ts) ⟨below_step (below_step HB.out hb2) (below_alloc _ _), (HKta.out.keep hb2).alloc _, (HTta.out.below hb2).below (below_alloc _ _), by rw [← hg]; exact Blk.new _ _ _, hT2.below (below_alloc _ _)⟩ ?_
    clear hg hT2 hb2 HB qta0 qta1 qta2 qta3 qtr0 qtr1 qtr2 qtr3 qtm0 qtm1 qtm2 qtm3 HKta HTta HKtr HTtr HKtm HTtm
    rintro V9 ⟨hb, hkta, htta, hkts, htts⟩
    have HB := Lib.hid hb
    have HKta := Lib.hid hkta
    have HTta := Lib.hid htta
    have qta0 := hkta.cell 0
    have qta1 := hkta.cell 1
    have qta2 := hkta.cell 2
    have qta3 := hkta.cell 3
    have HKts := Lib.hid hkts
    have HTts := Lib.hid htts
    have qts0 := hkts.cell 0
    have qts1 := hkts.cell 1
    have qts2 := hkts.cell 2
    have qts3 := hkts.cell 3
    clear hb hkta htta hkts htts
    have HSA := Lib.hid (same_v HTts.out HTta.out)
    rw [show (ts.cmp ta == 0) = true by rw [HQ.out, (TV.cmp_zero ts ts).2 rfl]; rfl] at HSA
    go_upto_region 16 with (go_at_call 11; refine HSA.out.mono ?_; rintro e w1 ⟨rfl, hb2⟩)
    refine wp_world (fun V => Below w.heap.size w V) (below_step HB.out hb2) ?_
    clear hb2 HB qta0 qta1 qta2 qta3 qts0 qts1 qts2 qts3 HKta HTta HKts HTts
    rintro V10 hb
    have HB := Lib.hid hb
    clear hb 
    clear HQ HSA
    go_upto_region 17 with (first
      | (go_at_call 12; (with_reducible refine (HLX.out _).mono ?_); rintro e wu ⟨Atu, ntu, ctu, rfl, hTu, hbu⟩)
      | (go_at_call 12; (with_reducible refine (HLY.out _).mono ?_); rintro e wv ⟨Atv, ntv, ctv, rfl, hTv, hbv⟩))
    obtain ⟨gtu, hgu⟩ : ∃ g, wv.heap.size = g := ⟨_, rfl⟩
    rw [hgu]
    have hb2 := below_step hbu hbv
    refine wp_world (fun V => Below w.heap.size w V ∧ Blk V gtu 24 #[.int .i64 tu.kind, .int .i64 tu.int, .string ⟨tu.name.toArray⟩, .slice Atu ntu ctu] ∧ TVal V (.agg #[.int .i64 tu.kind, .int .i64 tu.int, .string ⟨tu.name.toArray⟩, .slice Atu ntu ctu]) tu ∧ Blk V (gtu + 1) 24 #[.int .i64 tv.kind, .int .i64 tv.int, .string ⟨tv.name.toArray⟩, .slice Atv ntv ctv] ∧ TVal V (.agg #[.int .i64 tv.kind, .int .i64 tv.int, .string ⟨tv.name.toArray⟩, .slice Atv ntv ctv]) tv) ⟨below_step (below_step (below_step HB.out hb2) (below_alloc _ _)) (below_alloc _ _), by rw [← hgu]; exact (Blk.new _ _ _).alloc _, ((hTu.below hbv).below (below_alloc _ _)).below (below_alloc _ _), by rw [← hgu]; exact Blk.newAt (by simp), (hTv.below (below_alloc _ _)).below (below_alloc _ _)⟩ ?_
    rintro V11 ⟨hb, hktu, httu, hktv, httv⟩
    have HB := Lib.hid hb
    have HKtu := Lib.hid hktu
    have HTtu := Lib.hid httu
    have qtu0 := hktu.cell 0
    have qtu1 := hktu.cell 1
    have qtu2 := hktu.cell 2
    have qtu3 := hktu.cell 3
    have HKtv := Lib.hid hktv
    have HTtv := Lib.hid httv
    have qtv0 := hktv.cell 0
    have qtv1 := hktv.cell 1
    have qtv2 := hktv.cell 2
    have qtv3 := hktv.cell 3
    clear hb hktu httu hktv httv
    clear hbu hbv hTu hTv hgu hb2
    go_upto_region 18 with (go_at_call 9; refine (do2_at HTtu.out HTtv.out HGtu.out HGtv.out HDtw.out (by simp)).mono ?_; rintro e w2 ⟨u, rfl, hT2, hb2⟩; obtain ⟨Atw, ntw, ctw, rfl, hn⟩ := hT2.form; clear hn)
    obtain ⟨gtw, hg⟩ : ∃ g, w2.heap.size = g := ⟨_, rfl⟩
    rw [hg]
    refine wp_world (fun V => Below w.heap.size w V ∧ Blk V gtu 24 #[.int .i64 tu.kind, .int .i64 tu.int, .string ⟨tu.name.toArray⟩, .slice Atu ntu ctu] ∧ TVal V (.agg #[.int .i64 tu.kind, .int .i64 tu.int, .string ⟨tu.name.toArray⟩, .slice Atu ntu ctu]) tu ∧ Blk V (gtu + 1) 24 #[.int .i64 tv.kind, .int .i64 tv.int, .string ⟨tv.name.toArray⟩, .slice Atv ntv ctv] ∧ TVal V (.agg #[.int .i64 tv.kind, .int .i64 tv.int, .string ⟨tv.name.toArray⟩, .slice Atv ntv ctv]) tv ∧ Blk V gtw 24 #[.int .i64 tw.kind, .int .i64 tw.int, .string ⟨tw.name.toArray⟩, .slice Atw ntw ctw] ∧ TVal V (.agg #[.int .i64 tw.kind, .int .i64 tw.int, .string ⟨tw.name.toArray⟩, .slice Atw ntw ctw]) tw) ⟨below_step (below_step HB.out hb2) (below_alloc _ _), (HKtu.out.keep hb2).alloc _, (HTtu.out.below hb2).below (below_alloc _ _), (HKtv.out.keep hb2).alloc _, (HTtv.out.below hb2).below (below_alloc _ _), by rw [← hg]; exact Blk.new _ _ _, hT2.below (below_alloc _ _)⟩ ?_
    clear hg hT2 hb2 HB qtu0 qtu1 qtu2 qtu3 qtv0 qtv1 qtv2 qtv3 HKtu HTtu HKtv HTtv
    rintro V12 ⟨hb, hktu, httu, hktv, httv, hktw, httw⟩
    have HB := Lib.hid hb
    have HKtu := Lib.hid hktu
    have HTtu := Lib.hid httu
    have qtu0 := hktu.cell 0
    have qtu1 := hktu.cell 1
    have qtu2 := hktu.cell 2
    have qtu3 := hktu.cell 3
    have HKtv := Lib.hid hktv
    have HTtv := Lib.hid httv
    have qtv0 := hktv.cell 0
    have qtv1 := hktv.cell 1
    have qtv2 := hktv.cell 2
    have qtv3 := hktv.cell 3
    have HKtw := Lib.hid hktw
    have HTtw := Lib.hid httw
    have qtw0 := hktw.cell 0
    have qtw1 := hktw.cell 1
    have qtw2 := hktw.cell 2
    have qtw3 := hktw.cell 3
    clear hb hktu httu hktv httv hktw httw
    go_upto_region 19 with (go_at_call 9; refine (do1_at HTtw.out HGtw.out HDtn.out (by simp)).mono ?_; rintro e w2 ⟨u, rfl, hT2, hb2⟩; obtain ⟨Atn, ntn, ctn, rfl, hn⟩ := hT2.form; clear hn)
    obtain ⟨gtn, hg⟩ : ∃ g, w2.heap.size = g := ⟨_, rfl⟩
    rw [hg]
    refine wp_world (fun V => Below w.heap.size w V ∧ Blk V gtu 24 #[.int .i64 tu.kind, .int .i64 tu.int, .string ⟨tu.name.toArray⟩, .slice Atu ntu ctu] ∧ TVal V (.agg #[.int .i64 tu.kind, .int .i64 tu.int, .string ⟨tu.name.toArray⟩, .slice Atu ntu ctu]) tu ∧ Blk V (gtu + 1) 24 #[.int .i64 tv.kind, .int .i64 tv.int, .string ⟨tv.name.toArray⟩, .slice Atv ntv ctv] ∧ TVal V (.agg #[.int .i64 tv.kind, .int .i64 tv.int, .string ⟨tv.name.toArray⟩, .slice Atv ntv ctv]) tv ∧ Blk V gtn 24 #[.int .i64 tn.kind, .int .i64 tn.int, .string ⟨tn.name.toArray⟩, .slice Atn ntn ctn] ∧ TVal V (.agg #[.int .i64 tn.kind, .int .i64 tn.int, .string ⟨tn.name.toArray⟩, .slice Atn ntn ctn]) tn) ⟨below_step (below_step HB.out hb2) (below_alloc _ _), (HKtu.out.keep hb2).alloc _, (HTtu.out.below hb2).below (below_alloc _ _), (HKtv.out.keep hb2).alloc _, (HTtv.out.below hb2).below (below_alloc _ _), by rw [← hg]; exact Blk.new _ _ _, hT2.below (below_alloc _ _)⟩ ?_
    clear hg hT2 hb2 HB qtu0 qtu1 qtu2 qtu3 qtv0 qtv1 qtv2 qtv3 qtw0 qtw1 qtw2 qtw3 HKtu HTtu HKtv HTtv HKtw HTtw
    rintro V13 ⟨hb, hktu, httu, hktv, httv, hktn, httn⟩
    have HB := Lib.hid hb
    have HKtu := Lib.hid hktu
    have HTtu := Lib.hid httu
    have qtu0 := hktu.cell 0
    have qtu1 := hktu.cell 1
    have qtu2 := hktu.cell 2
    have qtu3 := hktu.cell 3
    have HKtv := Lib.hid hktv
    have HTtv := Lib.hid httv
    have qtv0 := hktv.cell 0
    have qtv1 := hktv.cell 1
    have qtv2 := hktv.cell 2
    have qtv3 := hktv.cell 3
    have HKtn := Lib.hid hktn
    have HTtn := Lib.hid httn
    have qtn0 := hktn.cell 0
    have qtn1 := hktn.cell 1
    have qtn2 := hktn.cell 2
    have qtn3 := hktn.cell 3
    clear hb hktu httu hktv httv hktn httn
    go_upto_region 20 with (go_at_call 9; refine (do1_at HTtu.out HGtu.out HDtk.out (by simp)).mono ?_; rintro e w2 ⟨u, rfl, hT2, hb2⟩; obtain ⟨Atk, ntk, ctk, rfl, hn⟩ := hT2.form; clear hn)
    obtain ⟨gtk, hg⟩ : ∃ g, w2.heap.size = g := ⟨_, rfl⟩
    rw [hg]
    refine wp_world (fun V => Below w.heap.size w V ∧ Blk V (gtu + 1) 24 #[.int .i64 tv.kind, .int .i64 tv.int, .string ⟨tv.name.toArray⟩, .slice Atv ntv ctv] ∧ TVal V (.agg #[.int .i64 tv.kind, .int .i64 tv.int, .string ⟨tv.name.toArray⟩, .slice Atv ntv ctv]) tv ∧ Blk V gtn 24 #[.int .i64 tn.kind, .int .i64 tn.int, .string ⟨tn.name.toArray⟩, .slice Atn ntn ctn] ∧ TVal V (.agg #[.int .i64 tn.kind, .int .i64 tn.int, .string ⟨tn.name.toArray⟩, .slice Atn ntn ctn]) tn ∧ Blk V gtk 24 #[.int .i64 tk.kind, .int .i64 tk.int, .string ⟨tk.name.toArray⟩, .slice Atk ntk ctk] ∧ TVal V (.agg #[.int .i64 tk.kind, .int .i64 tk.int, .string ⟨tk.name.toArray⟩, .slice Atk ntk ctk]) tk) ⟨below_step (below_step HB.out hb2) (below_alloc _ _), (HKtv.out.keep hb2).alloc _, (HTtv.out.below hb2).below (below_alloc _ _), (HKtn.out.keep hb2).alloc _, (HTtn.out.below hb2).below (below_alloc _ _), by rw [← hg]; exact Blk.new _ _ _, hT2.below (below_alloc _ _)⟩ ?_
    clear hg hT2 hb2 HB qtu0 qtu1 qtu2 qtu3 qtv0 qtv1 qtv2 qtv3 qtn0 qtn1 qtn2 qtn3 HKtu HTtu HKtv HTtv HKtn HTtn
    rintro V14 ⟨hb, hktv, httv, hktn, httn, hktk, httk⟩
    have HB := Lib.hid hb
    have HKtv := Lib.hid hktv
    have HTtv := Lib.hid httv
    have qtv0 := hktv.cell 0
    have qtv1 := hktv.cell 1
    have qtv2 := hktv.cell 2
    have qtv3 := hktv.cell 3
    have HKtn := Lib.hid hktn
    have HTtn := Lib.hid httn
    have qtn0 := hktn.cell 0
    have qtn1 := hktn.cell 1
    have qtn2 := hktn.cell 2
    have qtn3 := hktn.cell 3
    have HKtk := Lib.hid hktk
    have HTtk := Lib.hid httk
    have qtk0 := hktk.cell 0
    have qtk1 := hktk.cell 1
    have qtk2 := hktk.cell 2
    have qtk3 := hktk.cell 3
    clear hb hktv httv hktn httn hktk httk
    go_upto_region 21 with (go_at_call 9; refine (do1_at HTtv.out HGtv.out HDtl.out (by simp)).mono ?_; rintro e w2 ⟨u, rfl, hT2, hb2⟩; obtain ⟨Atl, ntl, ctl, rfl, hn⟩ := hT2.form; clear hn)
    obtain ⟨gtl, hg⟩ : ∃ g, w2.heap.size = g := ⟨_, rfl⟩
    rw [hg]
    refine wp_world (fun V => Below w.heap.size w V ∧ Blk V gtn 24 #[.int .i64 tn.kind, .int .i64 tn.int, .string ⟨tn.name.toArray⟩, .slice Atn ntn ctn] ∧ TVal V (.agg #[.int .i64 tn.kind, .int .i64 tn.int, .string ⟨tn.name.toArray⟩, .slice Atn ntn ctn]) tn ∧ Blk V gtk 24 #[.int .i64 tk.kind, .int .i64 tk.int, .string ⟨tk.name.toArray⟩, .slice Atk ntk ctk] ∧ TVal V (.agg #[.int .i64 tk.kind, .int .i64 tk.int, .string ⟨tk.name.toArray⟩, .slice Atk ntk ctk]) tk ∧ Blk V gtl 24 #[.int .i64 tl.kind, .int .i64 tl.int, .string ⟨tl.name.toArray⟩, .slice Atl ntl ctl] ∧ TVal V (.agg #[.int .i64 tl.kind, .int .i64 tl.int, .string ⟨tl.name.toArray⟩, .slice Atl ntl ctl]) tl) ⟨below_step (below_step HB.out hb2) (below_alloc _ _), (HKtn.out.keep hb2).alloc _, (HTtn.out.below hb2).below (below_alloc _ _), (HKtk.out.keep hb2).alloc _, (HTtk.out.below hb2).below (below_alloc _ _), by rw [← hg]; exact Blk.new _ _ _, hT2.below (below_alloc _ _)⟩ ?_
    clear hg hT2 hb2 HB qtv0 qtv1 qtv2 qtv3 qtn0 qtn1 qtn2 qtn3 qtk0 qtk1 qtk2 qtk3 HKtv HTtv HKtn HTtn HKtk HTtk
    rintro V15 ⟨hb, hktn, httn, hktk, httk, hktl, httl⟩
    have HB := Lib.hid hb
    have HKtn := Lib.hid hktn
    have HTtn := Lib.hid httn
    have qtn0 := hktn.cell 0
    have qtn1 := hktn.cell 1
    have qtn2 := hktn.cell 2
    have qtn3 := hktn.cell 3
    have HKtk := Lib.hid hktk
    have HTtk := Lib.hid httk
    have qtk0 := hktk.cell 0
    have qtk1 := hktk.cell 1
    have qtk2 := hktk.cell 2
    have qtk3 := hktk.cell 3
    have HKtl := Lib.hid hktl
    have HTtl := Lib.hid httl
    have qtl0 := hktl.cell 0
    have qtl1 := hktl.cell 1
    have qtl2 := hktl.cell 2
    have qtl3 := hktl.cell 3
    clear hb hktn httn hktk httk hktl httl
    obtain ⟨to, hto⟩ : ∃ z, tn = z := ⟨_, rfl⟩
    have HQ := Lib.hid hto
    rw [show (tn, ([] : List UInt8)) = (to, []) by rw [hto]] at HDto
    clear hto
    go_upto_region 22 with (go_at_call 9; refine (do2_at HTtk.out HTtl.out HGtk.out HGtl.out HDto.out (by simp)).mono ?_; rintro e w2 ⟨u, rfl, hT2, hb2⟩; obtain ⟨Ato, nto, cto, rfl, hn⟩ := hT2.form; clear hn)
    obtain ⟨gto, hg⟩ : ∃ g, w2.heap.size = g := ⟨_, rfl⟩
    rw [hg]
    refine wp_world (fun V => Below w.heap.size w V ∧ Blk V gtn 24 #[.int .i64 tn.kind, .int .i64 tn.int, .string ⟨tn.name.toArray⟩, .slice Atn ntn ctn] ∧ TVal V (.agg #[.int .i64 tn.kind, .int .i64 tn.int, .string ⟨tn.name.toArray⟩, .slice Atn ntn ctn]) tn ∧ Blk V gto 24 #[.int .i64 to.kind, .int .i64 to.int, .string ⟨to.name.toArray⟩, .slice Ato nto cto] ∧ TVal V (.agg #[.int .i64 to.kind, .int .i64 to.int, .string ⟨to.name.toArray⟩, .slice Ato nto cto]) to) ⟨below_step (below_step HB.out hb2) (below_alloc _ _), (HKtn.out.keep hb2).alloc _, (HTtn.out.below hb2).below (below_alloc _ _), by rw [← hg]; exact Blk.new _ _ _, hT2.below (below_alloc _ _)⟩ ?_
    clear hg hT2 hb2 HB qtn0 qtn1 qtn2 qtn3 qtk0 qtk1 qtk2 qtk3 qtl0 qtl1 qtl2 qtl3 HKtn HTtn HKtk HTtk HKtl HTtl
    rintro V16 ⟨hb, hktn, httn, hkto, htto⟩
    have HB := Lib.hid hb
    have HKtn := Lib.hid hktn
    have HTtn := Lib.hid httn
    have qtn0 := hktn.cell 0
    have qtn1 := hktn.cell 1
    have qtn2 := hktn.cell 2
    have qtn3 := hktn.cell 3
    have HKto := Lib.hid hkto
    have HTto := Lib.hid htto
    have qto0 := hkto.cell 0
    have qto1 := hkto.cell 1
    have qto2 := hkto.cell 2
    have qto3 := hkto.cell 3
    clear hb hktn httn hkto htto
    have HSA := Lib.hid (same_v HTtn.out HTto.out)
    rw [show (tn.cmp to == 0) = true by rw [HQ.out, (TV.cmp_zero to to).2 rfl]; rfl] at HSA
    go_wp2_with (first
      | (go_at_call 11; refine HSA.out.mono ?_; rintro e w1 ⟨rfl, hb2⟩)
      | (go_at_call 8; refine (live_from (below_step HB.out hb2)).mono ?_; rintro e w9 ⟨rfl, hb9⟩))
    go_ret
    exact ⟨rfl, hb9⟩
end
end Go.Proofs.Ytbpnlpjbjmojfaa
