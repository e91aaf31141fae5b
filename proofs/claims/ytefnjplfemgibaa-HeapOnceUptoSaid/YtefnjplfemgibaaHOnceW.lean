/- Heap (layer 9): HeapOnce, the walk, for lists of at most 2000000 terms. Written by hponce.py. -/
import Derived.Test.YtefnjplfemgibaaHpP
import Derived.Test.YtefnjplfemgibaaOpenT
namespace Go.Proofs.Ytefnjplfemgibaa
open Go.RowKit
set_option linter.unusedVariables false

section
variable {w W V V' : World} {u u1 u2 : Value} {t t1 t2 : TV}
theorem own_below2 {B e z n : Nat} {v : Value} {cs : List Value} {w1 w2 : World} (hb : Below W.heap.size W w1) (hB : W.heap.size ≤ B) (ho : w1.ownsRow B e z v n cs) (hg : w1.grownBy w2 v.ownBlock) : Below W.heap.size W w2 :=
  hb.grown hg hb.size (fun k hk => by have := (ho.lt k hk).1; omega)
theorem lit_below {w1 w2 : World} {ob : Obj} {cap : Nat} (hb : Below W.heap.size W (w1.alloc ob)) (hg : (w1.alloc ob).grownBy w2 (Value.slice (some ⟨w1.heap.size, 0, none⟩) 0 cap).ownBlock) (hW : W.heap.size ≤ w1.heap.size := by first | exact Nat.le_refl _ | assumption) : Below W.heap.size W w2 :=
  hb.grown hg hb.size (fun k hk => by have := Option.some.inj hk; simp only at this; omega)
theorem lval_own {B n : Nat} {v : Value} {cs : List Value} {l : List TV} (ho : V.ownsRow B 37 4 v n cs) (hs : Std V cs l) : LVal V v l :=
  (lex_own (X := fun _ => False) ho (fun _ h => h.elim) (hs.kept (kept_all V))).1.val
theorem cs_below {A : Option Addr} {cs : List Value} (h : Cs W A cs) (hb : Below W.heap.size W V) : Cs V A cs := by
  rcases h with h0 | ⟨b, e, hcell⟩
  · exact .inl h0
  · exact .inr ⟨b, e, fun j w hj => (hb.cell (World.block_lt_of_cell? W _ (hcell j w hj))).trans (hcell j w hj)⟩

theorem checkP_zero {l : List TV} (h1 : TV.partsL l ≤ 4096) (h2 : TV.isL l = true) : checkP l = 0 := by unfold checkP; rw [if_pos h1, if_pos h2]
theorem LVal.rdm {A : Option Addr} {n c : Nat} {l : List TV} (h : LVal V (.slice A n c) l) : RdM V A c l ∧ l.length = n := by
  obtain ⟨A', n', c', e, h1, h2⟩ := h
  obtain ⟨rfl, rfl, rfl⟩ := Value.slice.inj e
  exact ⟨h2, h1⟩
set_option maxRecDepth 100000 in
set_option maxHeartbeats 8000000 in
theorem once_in (l : List TV) (A1 : Option Addr) (n1 c1 : Nat) (w : World) (hl : l.length = n1) (h1 : RdM w A1 c1 l) (hnm : TV.namedL l) (hn1 : n1 ≤ 2000000) : Calls Try.prog 3 #[.slice A1 n1 c1] w (Yes w) := by
  obtain ⟨cs1, hs1, hc1⟩ := rdM_std h1
  have HL1 := Lib.hid (show cs1.length = n1 * 4 by rw [hs1.1, hl])
  have HC1 := Lib.hid hc1
  have HO1 := Lib.hid hs1.2.1
  have HS1 := Lib.hid hs1
  have HR1 := Lib.hid h1
  have HN1 := Lib.hid hl
  have HNM := Lib.hid hnm
  have hnm2 : TV.namedL (l ++ l) := namedL_of fun k h => by
    by_cases hk : k < l.length
    · rw [List.getElem_append_left hk]; exact namedL_at hnm hk
    · rw [List.getElem_append_right (by omega)]; exact namedL_at hnm _
  have HNM2 := Lib.hid hnm2
  have HCK : Hid (∀ V A c, LVal V (.slice A (n1 + n1) c) (l ++ l) → Calls Try.prog 8 #[.slice A (n1 + n1) c] V fun e w' => e = .returned (.int .i64 (checkP (l ++ l) : Nat)) ∧ Below V.heap.size V w') := fun V A c h => rcheck_any (l ++ l) A (n1 + n1) c V V h.rdm.2 hnm2 (Below.refl _ _) h.rdm.1
  have HFT : Hid (∀ V, Below w.heap.size w V → Calls Try.prog 9 #[.slice A1 n1 c1, .int .i64 500] V fun e w' => e = .returned (.bool (decide ((TV.partsL l : Int) ≤ 500))) ∧ Below V.heap.size V w') := fun V hV => fits_any l A1 n1 c1 500 w V hl (by omega) (by omega) hV h1
  clear hs1 hc1 h1 hnm hnm2 hl
  by_cases hck : checkP (l ++ l) = 0
  rotate_left
  · obtain ⟨ck, hce⟩ : ∃ ck, checkP (l ++ l) = ck := ⟨_, rfl⟩
    rw [hce] at HCK hck
    clear hce HFT
    have d1 : ((ck : Int) == 0) = false := by simpa using hck
    have d2 : ((ck : Int) != 0) = true := by simpa using hck
    clear hck
    go_enter Try.func3, Try.ntmps3
    go_wp2_with (first
      | (at_builtin; (refine wpList_app termT rfl (.tmp 12) (.tmp 13) rfl w.heap.size _ 0 [] rfl (World.ownsRow_lit w #[] 0 (Nat.le_refl _) (Nat.zero_le _) rfl) A1 n1 c1 cs1 rfl HL1.out (cs_below HC1.out (below_alloc w _)) HO1.out (by unfold maxLen; omega) (by omega) (by simp) ?_); intro v3 w3 ho3 hg3 hat3; have HB3 := Lib.hid (lit_below (below_alloc w _) hg3 (Nat.le_refl _)); have HSZ3 : Hid (w.heap.size ≤ w3.heap.size) := Nat.le_trans (below_alloc w _).size hg3.size; rw [List.nil_append, Nat.zero_add] at ho3; have HO3 := Lib.hid ho3; clear hg3 hat3 ho3)
      | (at_builtin; (refine wpList_app termT rfl (.tmp 14) (.tmp 15) rfl w.heap.size v3 n1 cs1 rfl HO3.out A1 n1 c1 cs1 rfl HL1.out (cs_below HC1.out HB3.out) HO1.out (by unfold maxLen; omega) (by omega) HSZ3.out ?_); intro v4 w4 ho4 hg4 hat4; have HB4 := Lib.hid (own_below2 HB3.out (Nat.le_refl _) HO3.out hg4); have HLV4 := Lib.hid (lval_own ho4 ((HS1.out.append HS1.out).kept (Kept.of_below HB4.out))); obtain ⟨A4, c4, rfl⟩ := own_sl ho4; have HLV4 : Hid (LVal w4 (.slice A4 (n1 + n1) c4) (l ++ l)) := HLV4.out; clear ho4 hg4 hat4)
      | (go_at_call 8; refine (HCK.out _ _ _ HLV4.out).mono ?_; rintro e w5 ⟨rfl, hb5⟩; have HB5 := Lib.hid (below_step HB4.out hb5); clear hb5)
      | (go_at_call 10; refine (live_from HB5.out).mono ?_; rintro e w9 ⟨rfl, hb9⟩))
    go_ret
    exact ⟨rfl, hb9⟩
  rw [hck] at HCK
  by_cases hft : (TV.partsL l : Int) ≤ 500
  rotate_left
  · rw [decide_eq_false hft] at HFT
    clear hft hck
    go_enter Try.func3, Try.ntmps3
    go_wp2_with (first
      | (at_builtin; (refine wpList_app termT rfl (.tmp 12) (.tmp 13) rfl w.heap.size _ 0 [] rfl (World.ownsRow_lit w #[] 0 (Nat.le_refl _) (Nat.zero_le _) rfl) A1 n1 c1 cs1 rfl HL1.out (cs_below HC1.out (below_alloc w _)) HO1.out (by unfold maxLen; omega) (by omega) (by simp) ?_); intro v3 w3 ho3 hg3 hat3; have HB3 := Lib.hid (lit_below (below_alloc w _) hg3 (Nat.le_refl _)); have HSZ3 : Hid (w.heap.size ≤ w3.heap.size) := Nat.le_trans (below_alloc w _).size hg3.size; rw [List.nil_append, Nat.zero_add] at ho3; have HO3 := Lib.hid ho3; clear hg3 hat3 ho3)
      | (at_builtin; (refine wpList_app termT rfl (.tmp 14) (.tmp 15) rfl w.heap.size v3 n1 cs1 rfl HO3.out A1 n1 c1 cs1 rfl HL1.out (cs_below HC1.out HB3.out) HO1.out (by unfold maxLen; omega) (by omega) HSZ3.out ?_); intro v4 w4 ho4 hg4 hat4; have HB4 := Lib.hid (own_below2 HB3.out (Nat.le_refl _) HO3.out hg4); have HLV4 := Lib.hid (lval_own ho4 ((HS1.out.append HS1.out).kept (Kept.of_below HB4.out))); obtain ⟨A4, c4, rfl⟩ := own_sl ho4; have HLV4 : Hid (LVal w4 (.slice A4 (n1 + n1) c4) (l ++ l)) := HLV4.out; clear ho4 hg4 hat4)
      | (go_at_call 8; refine (HCK.out _ _ _ HLV4.out).mono ?_; rintro e w5 ⟨rfl, hb5⟩; have HB5 := Lib.hid (below_step HB4.out hb5); clear hb5)
      | (go_at_call 9; refine (HFT.out _ HB5.out).mono ?_; rintro e w6 ⟨rfl, hb6⟩; have HB6 := Lib.hid (below_step HB5.out hb6); clear hb6)
      | (go_at_call 10; refine (live_from HB6.out).mono ?_; rintro e w9 ⟨rfl, hb9⟩))
    go_ret
    exact ⟨rfl, hb9⟩
  rw [decide_eq_true hft] at HFT
  obtain ⟨hpl2, hT2⟩ := hcheck_le hck
  have hT : TV.isL l = true := by rw [isL_append, Bool.and_eq_true] at hT2; exact hT2.1
  have hpl : TV.partsL l ≤ 500 := by omega
  have hck1 : checkP l = 0 := checkP_zero (by omega) hT
  have hn5 : n1 ≤ 500 := by have := len_parts l; have := HN1.out; omega
  have HT := Lib.hid hT
  have HCK1 := Lib.hid hck1
  have HCK2 := Lib.hid hck
  have HND := Lib.hid (lay_nodup hck1)
  have HTW := Lib.hid (layS_twice l)
  obtain ⟨⟨_, q2, q3, _⟩, q5⟩ := wordsS_ok l st0 st0_ok (by simp [st0]; omega) (by simp [st0]; omega)
  simp only [st0, List.length_nil, Nat.zero_add] at q2 q3
  have hwb : (layS l).1.ws.length ≤ 10000 := by unfold layS; simp only [st0]; omega
  have hab : (layS l).1.nm.length ≤ 10000 := by unfold layS; simp only [st0]; omega
  have hrl : (layS l).2.length = n1 := by rw [layS_len]; exact HN1.out
  clear hck hft hpl2 hT2 hT hck1 q2 q3 q5
  go_enter Try.func3, Try.ntmps3
  go_upto_region 3 with (first
      | (at_builtin; (refine wpList_app termT rfl (.tmp 12) (.tmp 13) rfl w.heap.size _ 0 [] rfl (World.ownsRow_lit w #[] 0 (Nat.le_refl _) (Nat.zero_le _) rfl) A1 n1 c1 cs1 rfl HL1.out (cs_below HC1.out (below_alloc w _)) HO1.out (by unfold maxLen; omega) (by omega) (by simp) ?_); intro v3 w3 ho3 hg3 hat3; have HB3 := Lib.hid (lit_below (below_alloc w _) hg3 (Nat.le_refl _)); have HSZ3 : Hid (w.heap.size ≤ w3.heap.size) := Nat.le_trans (below_alloc w _).size hg3.size; rw [List.nil_append, Nat.zero_add] at ho3; have HO3 := Lib.hid ho3; clear hg3 hat3 ho3)
      | (at_builtin; (refine wpList_app termT rfl (.tmp 14) (.tmp 15) rfl w.heap.size v3 n1 cs1 rfl HO3.out A1 n1 c1 cs1 rfl HL1.out (cs_below HC1.out HB3.out) HO1.out (by unfold maxLen; omega) (by omega) HSZ3.out ?_); intro v4 w4 ho4 hg4 hat4; have HB4 := Lib.hid (own_below2 HB3.out (Nat.le_refl _) HO3.out hg4); have HLV4 := Lib.hid (lval_own ho4 ((HS1.out.append HS1.out).kept (Kept.of_below HB4.out))); obtain ⟨A4, c4, rfl⟩ := own_sl ho4; have HLV4 : Hid (LVal w4 (.slice A4 (n1 + n1) c4) (l ++ l)) := HLV4.out; clear ho4 hg4 hat4)
      | (go_at_call 8; refine (HCK.out _ _ _ HLV4.out).mono ?_; rintro e w5 ⟨rfl, hb5⟩; have HB5 := Lib.hid (below_step HB4.out hb5); clear hb5)
      | (go_at_call 9; refine (HFT.out _ HB5.out).mono ?_; rintro e w6 ⟨rfl, hb6⟩; have HB6 := Lib.hid (below_step HB5.out hb6); clear hb6))
  refine wp_world (fun V => Below w.heap.size w V) HB6.out ?_
  clear HB3 HSZ3 HO3 HB4 HLV4 HB5 HB6 HCK HFT
  rintro V hb
  have HB := Lib.hid hb
  have HLAY := Lib.hid (hlay_v l A1 n1 c1 V HN1.out HNM.out (HR1.out.below hb))
  clear hb
  generalize hws : (layS l).1.ws = ws at *
  generalize hna : (layS l).1.nm = nm at *
  generalize hrs : (layS l).2 = rs at *
  obtain ⟨nw, hnw⟩ : ∃ n, ws.length = n := ⟨_, rfl⟩
  obtain ⟨na, hnal⟩ : ∃ n, nm.length = n := ⟨_, rfl⟩
  have HQ := Lib.hid (And.intro hws (And.intro hna (And.intro hrs (And.intro hnw (And.intro hnal hrl)))))
  rw [hnw] at hwb
  rw [hnal] at hab
  clear hws hna hrs hnw hnal hrl
  go_upto_region 4 with (go_at_call 11; refine HLAY.out.mono ?_; rintro e w2 ⟨hb2, hq⟩; rcases hq with ⟨hq, _⟩ | ⟨_, vw, va, vr, rfl, ho⟩; (exact absurd HCK1.out hq); obtain ⟨e1, e2, e3, e4, e5, e6⟩ := HQ.out; rw [e1, e2, e3] at ho; have ow := ho.w; have oa := ho.a; have orr := ho.r; rw [e4] at ow; rw [e5] at oa; rw [e6] at orr; obtain ⟨Aw, cw, rfl⟩ := own_sl ow; obtain ⟨Aa, ca, rfl⟩ := own_sl oa; obtain ⟨Ar, cr, rfl⟩ := own_sl orr; have HA := Lib.hid (rdc_own oa); have HRR := Lib.hid (rdc_own orr); clear ho ow oa orr e1 e2 e3 e4 e5 e6)
  obtain ⟨g3, hg3⟩ : ∃ g, w2.heap.size = g := ⟨_, rfl⟩
  rw [hg3]
  refine wp_world (fun V => Below w.heap.size w V ∧ Blk V g3 29 #[.slice Aw nw cw, .slice Aa na ca, .slice Ar n1 cr] ∧ RdC V Aa (nm.map hv) ∧ RdC V Ar (rs.map nv)) ⟨below_step (below_step HB.out hb2) (below_alloc _ _), by rw [← hg3]; exact Blk.new _ _ _, HA.out.below (below_alloc _ _), HRR.out.below (below_alloc _ _)⟩ ?_
  clear HB HLAY hb2 hg3 HA HRR
  rintro V1 ⟨hb, hk, hra, hrr⟩
  have HB := Lib.hid hb
  have HK := Lib.hid hk
  have HA := Lib.hid hra
  have HRR := Lib.hid hrr
  have hsV : w.heap.size ≤ V1.heap.size := hb.size
  have hbV := below_step hb (below_alloc V1 (.cells #[] 37))
  clear hb hk hra hrr
  have HL2 : Hid (∀ V A c, LVal V (.slice A (n1 + n1) c) (l ++ l) → Calls Try.prog 11 #[.slice A (n1 + n1) c] V (LayEnds V (l ++ l))) := fun V A c h => hlay_v (l ++ l) A (n1 + n1) c V h.rdm.2 HNM2.out h.rdm.1
  go_upto_region 5 with (first
      | (at_builtin; (refine wpList_app termT rfl (.tmp 31) (.tmp 32) rfl V1.heap.size _ 0 [] rfl (World.ownsRow_lit V1 #[] 0 (Nat.le_refl _) (Nat.zero_le _) rfl) A1 n1 c1 cs1 rfl HL1.out (cs_below HC1.out hbV) HO1.out (by unfold maxLen; omega) (by omega) (by simp) ?_); intro v13 w13 ho13 hg13 hat13; have HB13 := Lib.hid (lit_below hbV hg13 hsV); have HSZ13 : Hid (V1.heap.size ≤ w13.heap.size) := Nat.le_trans (below_alloc V1 _).size hg13.size; have HBX13 : Hid (Below V1.heap.size V1 w13) := lit_below (below_alloc V1 _) hg13 (Nat.le_refl _); rw [List.nil_append, Nat.zero_add] at ho13; have HO13 := Lib.hid ho13; clear hg13 hat13 ho13)
      | (at_builtin; (refine wpList_app termT rfl (.tmp 33) (.tmp 34) rfl V1.heap.size v13 n1 cs1 rfl HO13.out A1 n1 c1 cs1 rfl HL1.out (cs_below HC1.out HB13.out) HO1.out (by unfold maxLen; omega) (by omega) HSZ13.out ?_); intro v14 w14 ho14 hg14 hat14; have HB14 := Lib.hid (own_below2 HB13.out hsV HO13.out hg14); have HBX : Hid (Below V1.heap.size V1 w14) := own_below2 HBX13.out (Nat.le_refl _) HO13.out hg14; have HLV14 := Lib.hid (lval_own ho14 ((HS1.out.append HS1.out).kept (Kept.of_below HB14.out))); obtain ⟨A14, c14, rfl⟩ := own_sl ho14; have HLV14 : Hid (LVal w14 (.slice A14 (n1 + n1) c14) (l ++ l)) := HLV14.out; clear ho14 hg14 hat14)
      | (go_at_call 11; refine (HL2.out _ _ _ HLV14.out).mono ?_; rintro e w2 ⟨hb2, hq⟩; rcases hq with ⟨hq, _⟩ | ⟨_, vw, va, vr, rfl, ho⟩; (exact absurd HCK2.out hq); obtain ⟨e1, e2, e3, e4, e5, e6⟩ := HQ.out; rw [HTW.out] at ho; simp only at ho; rw [e1, e2] at ho; have ow := ho.w; have oa := ho.a; have orr := ho.r; rw [e4] at ow; rw [e5] at oa; rw [List.length_append, e6] at orr; obtain ⟨Bw, dw, rfl⟩ := own_sl ow; obtain ⟨Ba, da, rfl⟩ := own_sl oa; obtain ⟨Br, dr, rfl⟩ := own_sl orr; have HRB := Lib.hid (rdc_own orr); clear ho ow oa orr e1 e2 e3 e4 e5 e6))
  obtain ⟨g5, hg5⟩ : ∃ g, w2.heap.size = g := ⟨_, rfl⟩
  rw [hg5]
  have hbx : Below V1.heap.size V1 w2 := below_step HBX.out hb2
  refine wp_world (fun V => Below w.heap.size w V ∧ (Blk V g3 29 #[.slice Aw nw cw, .slice Aa na ca, .slice Ar n1 cr] ∧ Blk V g5 29 #[.slice Bw nw dw, .slice Ba na da, .slice Br (n1 + n1) dr]) ∧ RdC V Aa (nm.map hv) ∧ RdC V Ar (rs.map nv) ∧ RdC V Br ((rs ++ rs).map nv)) ⟨below_step (below_step HB.out hbx) (below_alloc _ _), ⟨(HK.out.keep hbx).alloc _, by rw [← hg5]; exact Blk.new _ _ _⟩, (HA.out.below hbx).below (below_alloc _ _), (HRR.out.below hbx).below (below_alloc _ _), HRB.out.below (below_alloc _ _)⟩ ?_
  clear HB hb2 hg5 HA HRR HRB HK hbx HL2 HBX hbV hsV HB13 HSZ13 HO13 HB14 HLV14
  rintro V9 ⟨hb, ⟨hka, hkb⟩, hra, hrr, hrb⟩
  have HB := Lib.hid hb
  have HKA := Lib.hid hka
  have HKB := Lib.hid hkb
  have HA := Lib.hid hra
  have HRR := Lib.hid hrr
  have HRB := Lib.hid hrb
  have a0 := hka.cell 0
  have a1 := hka.cell 1
  have a2 := hka.cell 2
  have b0 := hkb.cell 0
  have b1 := hkb.cell 1
  have b2 := hkb.cell 2
  clear hb hka hkb hra hrr hrb
  have d3 : (((n1 : Int) + (n1 : Int)) == 2 * (n1 : Int)) = true := by simp; omega
  have d4 : (((n1 : Int) + (n1 : Int)) != 2 * (n1 : Int)) = false := by simp; omega
  have d5 : (n1 : Int) + (n1 : Int) = 2 * (n1 : Int) := by omega
  go_upto_region 8 with (go_at_call 12; refine (hnum_v _ _).mono ?_; rintro e w' ⟨rfl, rfl⟩)
  clear a0 a1 a2 b0 b1 b2 d3 d4 d5
  go_loopw [7] (fun i wr => ∃ j : Nat, j ≤ n1 ∧ i = .int .i64 j ∧ Below V9.heap.size V9 wr) (fun i _ => n1 - (intOf i).toNat)
  case atStart => exact ⟨0, Nat.zero_le _, rfl, Below.refl _ _⟩
  case round =>
    obtain ⟨j, hj, rfl, hb⟩ := hrel
    have a2 := (HKA.out.keep hb).cell 2
    have b2 := (HKB.out.keep hb).cell 2
    have HJ := Lib.hid hb
    by_cases hlt : j < n1
    · have hd1 : decide (j < n1) = true := by simp; omega
      obtain ⟨_, _, e3, _, _, e6⟩ := HQ.out
      obtain ⟨x, hx⟩ : ∃ x, rs[j]? = some x := ⟨_, List.getElem?_eq_getElem (by rw [e6]; exact hlt)⟩
      obtain ⟨ba, oa, rfl, ca1⟩ := (HRR.out.below hb).at_ (j := j) (v := nv x) (by simp [hx])
      obtain ⟨bb, ob, rfl, cb1⟩ := (HRB.out.below hb).at_ (j := j) (v := nv x) (by rw [List.map_append, List.getElem?_append_left (by simp; omega)]; simp [hx])
      obtain ⟨bb', ob', eb, cb2⟩ := (HRB.out.below hb).at_ (j := n1 + j) (v := nv x) (by rw [List.map_append, List.getElem?_append_right (by simp; omega)]; simp [e6, hx])
      simp only [Option.some.injEq, Addr.mk.injEq, and_true] at eb
      obtain ⟨rfl, rfl⟩ := eb
      unfold nv at ca1 cb1 cb2
      have hq1 : (0 : Int) ≤ (j : Int) := by omega
      have hq2 : (j : Int) < (n1 : Int) := by omega
      have hq3 : (j : Int) < (n1 : Int) + (n1 : Int) := by omega
      have hq4 : (0 : Int) ≤ (n1 : Int) + (j : Int) := by omega
      have hq5 : (n1 : Int) + (j : Int) < (n1 : Int) + (n1 : Int) := by omega
      have hq6 : ((n1 : Int) + (j : Int)).toNat = n1 + j := by omega
      clear hb hx e3 e6
      go_upto_region 10 with (fail)
      go_quiet (fail)
      go_wp2
      go_roundw
      case rel => exact ⟨j + 1, by omega, by go_num, ⟨HJ.out.os, HJ.out.tape, HJ.out.output, HJ.out.size, HJ.out.block⟩⟩
      case measure => simp [intOf]; omega
    · obtain rfl : n1 = j := by omega
      have hd1 : decide (n1 < n1) = false := by simp
      go_upto_region 13 with (fail)
      clear a2 b2 hb
      go_loopw [8] (fun i wr => ∃ p : Nat, p ≤ na ∧ i = .int .i64 p ∧ Below V9.heap.size V9 wr) (fun i _ => na - (intOf i).toNat)
      case atStart => exact ⟨0, Nat.zero_le _, rfl, ⟨HJ.out.os, HJ.out.tape, HJ.out.output, HJ.out.size, HJ.out.block⟩⟩
      case round =>
        obtain ⟨p, hp, rfl, hb⟩ := hrel
        have HP := Lib.hid hb
        have a1 := (HKA.out.keep hb).cell 1
        clear hb
        by_cases hlt : p < na
        · have hd2 : decide (p < na) = true := by simp; omega
          go_wp2
          clear a1
          go_loopw [9] (fun i wr => ∃ k : Nat, k ≤ p ∧ i = .int .i64 k ∧ Below V9.heap.size V9 wr) (fun i _ => p - (intOf i).toNat)
          case atStart => exact ⟨0, Nat.zero_le _, rfl, ⟨HP.out.os, HP.out.tape, HP.out.output, HP.out.size, HP.out.block⟩⟩
          case round =>
            obtain ⟨k, hk, rfl, hb⟩ := hrel
            have HK2 := Lib.hid hb
            have a1 := (HKA.out.keep hb).cell 1
            by_cases hkp : k < p
            · have hd3 : decide (k < p) = true := by simp; omega
              obtain ⟨_, _, _, _, e5, _⟩ := HQ.out
              obtain ⟨x, hx⟩ : ∃ x, nm[p]? = some x := ⟨_, List.getElem?_eq_getElem (by rw [e5]; exact hlt)⟩
              obtain ⟨y, hy⟩ : ∃ y, nm[k]? = some y := ⟨_, List.getElem?_eq_getElem (by rw [e5]; omega)⟩
              have hxy : x ≠ y := fun e => by
                obtain ⟨h8, h7⟩ := List.getElem?_eq_some_iff.1 hx
                obtain ⟨h6, h5⟩ := List.getElem?_eq_some_iff.1 hy
                have h4 := (List.getElem_inj (h₀ := h8) (h₁ := h6) HND.out).1 (by rw [h7, h5, e])
                omega
              obtain ⟨ba, oa, rfl, cx⟩ := (HA.out.below hb).at_ (j := p) (v := hv x) (by simp [hx])
              obtain ⟨ba', oa', eb, cy⟩ := (HA.out.below hb).at_ (j := k) (v := hv y) (by simp [hy])
              simp only [Option.some.injEq, Addr.mk.injEq, and_true] at eb
              obtain ⟨rfl, rfl⟩ := eb
              unfold hv at cx cy
              have de : (x == y) = false := by simpa using hxy
              have hq1 : (0 : Int) ≤ (p : Int) := by omega
              have hq2 : (p : Int) < (na : Int) := by omega
              have hq3 : (0 : Int) ≤ (k : Int) := by omega
              have hq4 : (k : Int) < (na : Int) := by omega
              clear hb hx hy e5 hxy
              go_upto_region 18 with (fail)
              go_quiet (fail)
              go_wp2
              go_roundw
              case rel => exact ⟨k + 1, by omega, by go_num, ⟨HK2.out.os, HK2.out.tape, HK2.out.output, HK2.out.size, HK2.out.block⟩⟩
              case measure => simp [intOf]; omega
            · obtain rfl : p = k := by omega
              have hd3 : decide (p < p) = false := by simp
              clear hb a1
              go_wp2
              go_roundw
              case rel => exact ⟨p + 1, by omega, by go_num, ⟨HK2.out.os, HK2.out.tape, HK2.out.output, HK2.out.size, HK2.out.block⟩⟩
              case measure => simp [intOf]; omega
        · obtain rfl : na = p := by omega
          have hd2 : decide (na < na) = false := by simp
          go_upto_region 21 with (fail)
          clear a1
          go_loopw [10] (fun i wr => ∃ p : Nat, p ≤ n1 ∧ i = .int .i64 p ∧ Below V9.heap.size V9 wr) (fun i _ => n1 - (intOf i).toNat)
          case atStart => exact ⟨0, Nat.zero_le _, rfl, ⟨HP.out.os, HP.out.tape, HP.out.output, HP.out.size, HP.out.block⟩⟩
          case round =>
            obtain ⟨p, hp, rfl, hb⟩ := hrel
            have HP2 := Lib.hid hb
            clear hb
            by_cases hlt : p < n1
            · have hd4 : decide (p < n1) = true := by simp; omega
              go_wp2
              go_loopw [11] (fun i wr => ∃ k : Nat, k ≤ p ∧ i = .int .i64 k ∧ Below V9.heap.size V9 wr) (fun i _ => p - (intOf i).toNat)
              case atStart => exact ⟨0, Nat.zero_le _, rfl, ⟨HP2.out.os, HP2.out.tape, HP2.out.output, HP2.out.size, HP2.out.block⟩⟩
              case round =>
                obtain ⟨k, hk, rfl, hb⟩ := hrel
                have HK2 := Lib.hid hb
                by_cases hkp : k < p
                · have hd5 : decide (k < p) = true := by simp; omega
                  obtain ⟨_, _, e3, _, _, e6⟩ := HQ.out
                  have hpl9 : p < l.length := by rw [HN1.out]; exact hlt
                  have hkl9 : k < l.length := by rw [HN1.out]; omega
                  obtain ⟨x, hx⟩ : ∃ x, rs[p]? = some x := ⟨_, List.getElem?_eq_getElem (by rw [e6]; exact hlt)⟩
                  obtain ⟨y, hy⟩ : ∃ y, rs[k]? = some y := ⟨_, List.getElem?_eq_getElem (by rw [e6]; omega)⟩
                  have hiff := lay_roots HT.out hpl9 hkl9 (by rw [e3]; exact hx) (by rw [e3]; exact hy)
                  obtain ⟨ba, oa, rfl, cx⟩ := HRR.out.at_ (j := p) (v := nv x) (by simp [hx])
                  obtain ⟨ba', oa', eb, cy⟩ := HRR.out.at_ (j := k) (v := nv y) (by simp [hy])
                  simp only [Option.some.injEq, Addr.mk.injEq, and_true] at eb
                  obtain ⟨rfl, rfl⟩ := eb
                  unfold nv at cx cy
                  obtain ⟨bl, ol, Ap, cp, rfl, p0, p1, p2, p3, hRp⟩ := HR1.out.item hpl9
                  obtain ⟨bl', ol', Ak, ck, eb2, k0, k1, k2, k3, hRk⟩ := HR1.out.item hkl9
                  simp only [Option.some.injEq, Addr.mk.injEq, and_true] at eb2
                  obtain ⟨rfl, rfl⟩ := eb2
                  obtain ⟨q, hq⟩ : ∃ q : Bool, ((x : Int) == (y : Int)) = q := ⟨_, rfl⟩
                  have hcmp : (l[p].cmp l[k] == 0) = q := by
                    rw [← hq]
                    by_cases hxy : x = y
                    · have h9 := hiff.1 hxy
                      rw [(TV.cmp_zero _ _).2 h9, hxy]
                      simp
                    · have h9 : ¬ l[p].cmp l[k] = 0 := fun h => hxy (hiff.2 ((TV.cmp_zero _ _).1 h))
                      rw [beq_eq_false_iff_ne.2 h9]
                      symm
                      simpa using fun h => hxy (by omega)
                  generalize l[p] = tp at *
                  generalize l[k] = tk at *
                  have HSM : Hid (∀ V, Below V9.heap.size V9 V → Calls Try.prog 13 #[.agg #[.int .i64 tp.kind, .int .i64 tp.int, .string ⟨tp.name.toArray⟩, .slice Ap tp.items.length cp], .agg #[.int .i64 tk.kind, .int .i64 tk.int, .string ⟨tk.name.toArray⟩, .slice Ak tk.items.length ck]] V fun e w' => e = .returned (.bool q) ∧ Below V.heap.size V w') := fun V hV => by
                    have hVw := below_step HB.out hV
                    have h9 := same_v (W := V) (t := tp) (t' := tk) ⟨Ap, _, cp, rfl, rfl, hRp.below hVw⟩ ⟨Ak, _, ck, rfl, rfl, hRk.below hVw⟩
                    rw [hcmp] at h9
                    exact h9
                  have HKP : Hid (∀ V, Below V9.heap.size V9 V → (V.cell? ⟨g3, 2, none⟩ = some (.slice (some ⟨ba, oa, none⟩) n1 cr) ∧ V.cell? ⟨ba, oa + p, none⟩ = some (.int .u64 (x : Int)) ∧ V.cell? ⟨ba, oa + k, none⟩ = some (.int .u64 (y : Int)) ∧ V.cell? ⟨bl, ol + p * 4, none⟩ = some (.int .i64 tp.kind) ∧ V.cell? ⟨bl, ol + p * 4 + 1, none⟩ = some (.int .i64 tp.int) ∧ V.cell? ⟨bl, ol + p * 4 + 2, none⟩ = some (.string ⟨tp.name.toArray⟩) ∧ V.cell? ⟨bl, ol + p * 4 + 3, none⟩ = some (.slice Ap tp.items.length cp) ∧ V.cell? ⟨bl, ol + k * 4, none⟩ = some (.int .i64 tk.kind) ∧ V.cell? ⟨bl, ol + k * 4 + 1, none⟩ = some (.int .i64 tk.int) ∧ V.cell? ⟨bl, ol + k * 4 + 2, none⟩ = some (.string ⟨tk.name.toArray⟩) ∧ V.cell? ⟨bl, ol + k * 4 + 3, none⟩ = some (.slice Ak tk.items.length ck)) ∧ Below V9.heap.size V9 V) := fun V hV => by
                    have hVw := below_step HB.out hV
                    have f : ∀ {c : Addr} {v : Value}, w.cell? c = some v → V.cell? c = some v := fun {c v} h => (hVw.cell (World.block_lt_of_cell? w _ h)).trans h
                    have f9 : ∀ {c : Addr} {v : Value}, V9.cell? c = some v → V.cell? c = some v := fun {c v} h => (hV.cell (World.block_lt_of_cell? V9 _ h)).trans h
                    exact ⟨⟨(HKA.out.keep hV).cell 2, f9 cx, f9 cy, f p0, f p1, f p2, f p3, f k0, f k1, f k2, f k3⟩, hV⟩
                  have H00 : Hid (Below V9.heap.size V9 wr.drew) := hb.drew
                  have hr1 : (0 : Int) ≤ (p : Int) := by omega
                  have hr2 : (p : Int) < (n1 : Int) := by omega
                  have hr3 : (0 : Int) ≤ (k : Int) := by omega
                  have hr4 : (k : Int) < (n1 : Int) := by omega
                  clear hb hx hy e3 e6 hiff cx cy p0 p1 p2 p3 k0 k1 k2 k3 hRp hRk hcmp hpl9 hkl9
                  go_upto_region 26 with (fail)
                  go_region_held3 (fun V => (V.cell? ⟨g3, 2, none⟩ = some (.slice (some ⟨ba, oa, none⟩) n1 cr) ∧ V.cell? ⟨ba, oa + p, none⟩ = some (.int .u64 (x : Int)) ∧ V.cell? ⟨ba, oa + k, none⟩ = some (.int .u64 (y : Int)) ∧ V.cell? ⟨bl, ol + p * 4, none⟩ = some (.int .i64 tp.kind) ∧ V.cell? ⟨bl, ol + p * 4 + 1, none⟩ = some (.int .i64 tp.int) ∧ V.cell? ⟨bl, ol + p * 4 + 2, none⟩ = some (.string ⟨tp.name.toArray⟩) ∧ V.cell? ⟨bl, ol + p * 4 + 3, none⟩ = some (.slice Ap tp.items.length cp) ∧ V.cell? ⟨bl, ol + k * 4, none⟩ = some (.int .i64 tk.kind) ∧ V.cell? ⟨bl, ol + k * 4 + 1, none⟩ = some (.int .i64 tk.int) ∧ V.cell? ⟨bl, ol + k * 4 + 2, none⟩ = some (.string ⟨tk.name.toArray⟩) ∧ V.cell? ⟨bl, ol + k * 4 + 3, none⟩ = some (.slice Ak tk.items.length ck)) ∧ Below V9.heap.size V9 V) (first | exact HKP.out _ H00.out | exact HKP.out _ (by assumption) | assumption) ((first
                    | (go_at_call 13; refine (HSM.out _ (And.right (by assumption))).mono ?_; rintro r V7 ⟨rfl, hb7⟩; have hP7 : Below V9.heap.size V9 V7 := below_step (And.right (by assumption)) hb7; clear hb7)))
                  rename_i hHeld9
                  have HH9 := Lib.hid hHeld9.2
                  clear hHeld9
                  cases q
                  all_goals
                    go_wp2
                    go_roundw
                    case rel => exact ⟨k + 1, by omega, by go_num, ⟨HH9.out.os, HH9.out.tape, HH9.out.output, HH9.out.size, HH9.out.block⟩⟩
                    case measure => simp [intOf]; omega
                · obtain rfl : p = k := by omega
                  have hd5 : decide (p < p) = false := by simp
                  clear hb
                  go_wp2
                  go_roundw
                  case rel => exact ⟨p + 1, by omega, by go_num, ⟨HK2.out.os, HK2.out.tape, HK2.out.output, HK2.out.size, HK2.out.block⟩⟩
                  case measure => simp [intOf]; omega
            · obtain rfl : n1 = p := by omega
              have hd4 : decide (n1 < n1) = false := by simp
              go_wp2_with (go_at_call 10; refine (live_from (below_step HB.out HP2.out)).mono ?_; rintro e w9 ⟨rfl, hb9⟩)
              go_ret
              exact ⟨rfl, hb9⟩
end
end Go.Proofs.Ytefnjplfemgibaa
