/- Arith (layer 14): ArithDoes, the walk. Written by argensm.py. -/
import Derived.Test.YtbpnlpjbjmojfaaGreatArRj
import Derived.Test.YtbpnlpjbjmojfaaGreatALst
namespace Go.Proofs.YtbpnlpjbjmojfaaGreat
open Go.RowKit
set_option linter.unusedVariables false
section
variable {w W V V' : World} {u u1 u2 : Value} {t t1 t2 : TV}
set_option maxRecDepth 100000 in
set_option maxHeartbeats 1000000 in
theorem lsame2_v (h1 : TVal W u1 t) (h2 : TVal W u2 t) (s : List UInt8) : Calls Tryz.prog 8 #[u1, .string ⟨s.toArray⟩, u2, .string ⟨s.toArray⟩] W fun e w' => e = .returned (.bool true) ∧ Below W.heap.size W w' := by
  have HC : Hid (∀ V, Below W.heap.size W V → Calls Tryz.prog 14 #[u1, u2] V fun e w' => e = .returned (.bool true) ∧ Below W.heap.size W w') := fun V hV => (same_v (h1.below hV) (h2.below hV)).mono (by rintro e w' ⟨rfl, hb⟩; exact ⟨by rw [show (t.cmp t == 0) = true by rw [(TV.cmp_zero t t).2 rfl]; rfl], below_step hV hb⟩)
  obtain ⟨A1, n1, c1, rfl, _⟩ := h1.form
  obtain ⟨A2, n2, c2, rfl, _⟩ := h2.form
  clear h1 h2
  go_enter Tryz.func8, Tryz.ntmps8
  go_wp2_with (go_at_call 14; refine (HC.out _ (below_step (below_alloc _ _) (below_alloc _ _))).mono ?_; rintro e w1 ⟨rfl, hb⟩)
  go_ret
  exact ⟨rfl, by first | exact hb | assumption⟩
theorem rdo_c {l : List TV} {name : List UInt8} {r : TV × List UInt8} (hr : doP name l = r) (hL : LVal V u l) (hG : ∀ t ∈ l, GoodT t) : Calls Tryz.prog 7 #[.string ⟨name.toArray⟩, u] V (DoEnds V r) := by
  rw [← hr]
  refine (rdo_v (X := fun _ => False) (fun _ h => h.elim) hL.lex hG).mono ?_
  rintro e w' ⟨u', he, hT, hb⟩
  exact ⟨u', he, hT.val, hb⟩
set_option maxRecDepth 100000 in
set_option maxHeartbeats 4000000 in
theorem does_in (s : List UInt8) (l : List TV) (A1 : Option Addr) (n1 c1 : Nat) (w : World) (hl : l.length = n1) (h1 : RdM w A1 c1 l) (hnm : TV.namedL l) : Calls Tryz.prog 3 #[.string ⟨s.toArray⟩, .slice A1 n1 c1] w (Yes w) := by
  obtain ⟨cs1, hs1, hc1⟩ := rdM_std h1
  have HL1 := Lib.hid (show cs1.length = n1 * 4 by rw [hs1.1, hl])
  have HC1 := Lib.hid hc1
  have HO1 := Lib.hid hs1.2.1
  have HS1 := Lib.hid hs1
  have HR1 := Lib.hid h1
  have HN1 := Lib.hid hl
  have HSM : Hid (∀ V, Below w.heap.size w V → Calls Tryz.prog 4 #[.slice A1 n1 c1, .slice none 0 0] V fun e w' => e = .returned (.bool (smB l)) ∧ Below V.heap.size V w') := fun V hV => small_v l A1 n1 c1 V hl hnm (h1.below hV)
  clear hs1 hc1 h1 hnm hl
  by_cases hlen : 3000 < s.length
  · have hd : decide ((3000 : Int) < (s.length : Int)) = true := by simp; omega
    clear hlen HSM
    go_enter Tryz.func3, Tryz.ntmps3
    go_wp2_with (go_at_call 5; refine (live_from (Below.refl _ _)).mono ?_; rintro e w9 ⟨rfl, hb9⟩)
    go_ret
    exact ⟨rfl, hb9⟩
  have hd : decide ((3000 : Int) < (s.length : Int)) = false := by simp; omega
  by_cases hsm : smB l = true
  rotate_left
  · rw [Bool.not_eq_true] at hsm
    rw [hsm] at HSM
    clear hsm hlen
    go_enter Tryz.func3, Tryz.ntmps3
    go_wp2_with (first
      | (go_at_call 4; refine (HSM.out _ (Below.refl _ _)).mono ?_; rintro e w1 ⟨rfl, hb1⟩)
      | (go_at_call 5; refine (live_from hb1).mono ?_; rintro e w9 ⟨rfl, hb9⟩))
    go_ret
    exact ⟨rfl, hb9⟩
  have hn100 : n1 ≤ 100 := by have h := (smB_yes hsm).1; rw [HN1.out] at h; exact h
  have HG : Hid (∀ t ∈ l, GoodT t) := fun t ht => good_of ((smB_yes hsm).2.1 t ht)
  obtain ⟨⟨t9, e9⟩, hr⟩ : ∃ r, doP s l = r := ⟨_, rfl⟩
  have HR := Lib.hid hr
  rw [hsm] at HSM
  clear hsm hr
  go_enter Tryz.func3, Tryz.ntmps3
  go_upto_region 3 with (go_at_call 4; refine (HSM.out _ (Below.refl _ _)).mono ?_; rintro e w1 ⟨rfl, hb1⟩)
  refine wp_world (fun V => Below w.heap.size w V) hb1 ?_
  clear hb1
  rintro V1 hb1
  have HB1 := Lib.hid hb1
  have hsz1 := hb1.size
  have hb0 := below_step hb1 (below_alloc V1 (.cells #[] 26))
  clear hb1
  go_upto_region 4 with (first
    | (at_builtin; (refine wpList_appG termT (by first | rfl | simp [Region.wanted, yielded]) (.tmp 20) (.tmp 21) rfl V1.heap.size _ 0 [] rfl (World.ownsRow_lit V1 #[] 0 (Nat.le_refl _) (Nat.zero_le _) rfl) A1 n1 c1 cs1 rfl HL1.out (cs_below HC1.out hb0) HO1.out (by unfold maxLen; omega) (by omega) (by simp) ?_); intro v3 w3 ho3 hg3 hat3; have HB3 := Lib.hid (lit_below hb0 hg3 hsz1); rw [List.nil_append, Nat.zero_add] at ho3; have HLV3 := Lib.hid (lval_own ho3 (HS1.out.kept (Kept.of_below HB3.out))); obtain ⟨A3, c3, rfl, _, _⟩ := own_slice ho3; clear hg3 hat3 ho3)
    | (go_at_call 6; refine (do_c HR.out (by omega) HLV3.out HG.out (by rw [HN1.out]; omega)).mono ?_; rintro e w4 ⟨u, rfl, hT2, hb2⟩; obtain ⟨A6, n6, c6, rfl, hn6⟩ := hT2.form; clear hn6))
  obtain ⟨g1, hg⟩ : ∃ g, w4.heap.size = g := ⟨_, rfl⟩
  rw [hg]
  refine wp_world (fun V => Below w.heap.size w V ∧ Blk V g1 26 #[.int .i64 t9.kind, .int .i64 t9.int, .string ⟨t9.name.toArray⟩, .slice A6 n6 c6] ∧ TVal V (.agg #[.int .i64 t9.kind, .int .i64 t9.int, .string ⟨t9.name.toArray⟩, .slice A6 n6 c6]) t9) ⟨below_step (below_step HB3.out hb2) (below_alloc _ _), by rw [← hg]; exact Blk.new _ _ _, hT2.below (below_alloc _ _)⟩ ?_
  clear hg hT2 hb2 HB3 HLV3 hb0 HB1 hsz1 HC1 HS1 HL1 HO1
  rintro V2 ⟨hb, hk, ht⟩
  have HB := Lib.hid hb
  have HK1 := Lib.hid hk
  have HT1 := Lib.hid ht
  have HLW : Hid (LVal V2 (.slice A1 n1 c1) l) := ⟨A1, n1, c1, rfl, HN1.out, HR1.out.below hb⟩
  clear hb hk ht
  go_upto_region 5 with (go_at_call 7; refine (rdo_c HR.out HLW.out HG.out).mono ?_; rintro e w4 ⟨u, rfl, hT2, hb2⟩; obtain ⟨A7, n7, c7, rfl, hn7⟩ := hT2.form; clear hn7)
  obtain ⟨g2, hg⟩ : ∃ g, w4.heap.size = g := ⟨_, rfl⟩
  rw [hg]
  refine wp_world (fun V => Below w.heap.size w V ∧ (Blk V g1 26 #[.int .i64 t9.kind, .int .i64 t9.int, .string ⟨t9.name.toArray⟩, .slice A6 n6 c6] ∧ TVal V (.agg #[.int .i64 t9.kind, .int .i64 t9.int, .string ⟨t9.name.toArray⟩, .slice A6 n6 c6]) t9) ∧ Blk V g2 26 #[.int .i64 t9.kind, .int .i64 t9.int, .string ⟨t9.name.toArray⟩, .slice A7 n7 c7] ∧ TVal V (.agg #[.int .i64 t9.kind, .int .i64 t9.int, .string ⟨t9.name.toArray⟩, .slice A7 n7 c7]) t9) ⟨below_step (below_step HB.out hb2) (below_alloc _ _), ⟨(HK1.out.keep hb2).alloc _, (HT1.out.below hb2).below (below_alloc _ _)⟩, by rw [← hg]; exact Blk.new _ _ _, hT2.below (below_alloc _ _)⟩ ?_
  clear hg hT2 hb2 HB HK1 HT1 HLW
  rintro V3 ⟨hb, ⟨hk1, ht1⟩, hk2, ht2⟩
  have HB := Lib.hid hb
  have HT1 := Lib.hid ht1
  have HT2 := Lib.hid ht2
  have x0 := hk1.cell 0
  have x1 := hk1.cell 1
  have x2 := hk1.cell 2
  have x3 := hk1.cell 3
  have y0 := hk2.cell 0
  have y1 := hk2.cell 1
  have y2 := hk2.cell 2
  have y3 := hk2.cell 3
  clear hb hk1 hk2 ht1 ht2
  go_wp2_with (first
    | (go_at_call 8; refine (lsame2_v HT1.out HT2.out e9).mono ?_; rintro e w5 ⟨rfl, hb5⟩)
    | (go_at_call 5; refine (live_from (below_step HB.out hb5)).mono ?_; rintro e w9 ⟨rfl, hb9⟩))
  go_ret
  exact ⟨rfl, hb9⟩
end
end Go.Proofs.YtbpnlpjbjmojfaaGreat
