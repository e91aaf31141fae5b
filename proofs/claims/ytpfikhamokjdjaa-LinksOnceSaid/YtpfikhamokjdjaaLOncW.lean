/- The walk of the statement LinksOnce. -/
import Derived.Test.YtpfikhamokjdjaaLkX
namespace Go.Proofs.Ytpfikhamokjdjaa
open Go.RowKit
set_option linter.unusedVariables false
set_option maxRecDepth 100000 in
set_option maxHeartbeats 8000000 in
theorem linksOnce_any (A : Option Addr) (l : List ActL) (len c : Nat) (who : Int) (W : World) (hl : l.length = len) (hnc : len ≤ c) (hcm : c ≤ 9223372036854775807) (hr : RdLA W A l) (ho : ∀ a ∈ l, a.Ok) (hw : i64ok who) :
    Calls Try.prog 4 #[.slice A len c, .int .i64 who] W (Yes W) := by
  have HLV := Lib.hid live_v
  by_cases hbig : 150 < len
  · have d0 : decide ((150 : Int) < (len : Int)) = true := by simp; omega
    clear hnc hcm
    go_enter Try.func4, Try.ntmps4
    go_wp2_with (go_at_call 8; refine (HLV.out _).mono ?_; rintro e w5 ⟨rfl, hb⟩; have HB5 := Lib.hid hb; clear hb)
    go_ret
    exact ⟨rfl, HB5.out⟩
  · have d0 : decide ((150 : Int) < (len : Int)) = false := by simp; omega
    have HL := Lib.hid hl
    have HR := Lib.hid hr
    have HO := Lib.hid ho
    have HW := Lib.hid hw
    have HNC := Lib.hid hnc
    have HCM := Lib.hid hcm
    have hlb : len ≤ 150 := by omega
    have HNEW := Lib.hid new_v
    clear hl hr ho hw hnc hcm hbig
    go_enter Try.func4, Try.ntmps4
    go_wp2_with (go_at_call 9; refine (HNEW.out _).mono ?_; rintro e V0 ⟨pm, b1, b2, rfl, h0⟩; have H0 := Lib.hid h0; clear h0)
    go_loopw [6, 7, 8] (fun i _ _ wr => ∃ (k : Nat) (L : PL) (K : WL), k ≤ len ∧ i = .int .i64 (k : Int) ∧ LK W wr pm b1 b2 (4 * k) L K ∧ L.length ≤ 2 * k ∧ K.length ≤ k ∧ ∀ x ∈ K, x.ref < (k : Int)) (fun i _ _ _ => len + 1 - (intOf i).toNat)
    case atStart => exact ⟨0, [], [], Nat.zero_le _, rfl, H0.out, Nat.le_refl _, Nat.le_refl _, fun x hx => by cases hx⟩
    case round =>
      obtain ⟨k, L, K, hk, rfl, hlk, hLl, hKl, hKr⟩ := hrel
      have HLK := Lib.hid hlk
      have HLL := Lib.hid hLl
      have HKL := Lib.hid hKl
      have HKR := Lib.hid hKr
      clear hlk hLl hKl hKr H0
      by_cases hlt : k < len
      · have hlt' : decide (k < len) = true := by simpa using hlt
        have hkl : k < l.length := by rw [HL.out]; exact hlt
        have hrw := HR.out.below HLK.out.old
        obtain ⟨g, off, rfl, c0, c1, c2, c3⟩ := hrw.at_ hkl
        have hok := HO.out _ (List.getElem_mem hkl)
        have HRW : Hid (∀ V, Below W.heap.size W V → ActLAt V g (off + k * 4) l[k]) := fun V hb => by
          obtain ⟨g', off', e, h9⟩ := (HR.out.below hb).at_ hkl
          obtain ⟨rfl, rfl, _⟩ := Addr.mk.inj (Option.some.inj e)
          exact h9
        generalize l[k] = x at c0 c1 c2 c3 hok HRW
        obtain ⟨xk, xa, xb, xc⟩ := x
        simp only at c0 c1 c2 c3
        have HA := Lib.hid hok.a
        have HB := Lib.hid hok.b
        have q1 : (0 : Int) ≤ (k : Int) := by omega
        have q2 : (k : Int) < (len : Int) := by omega
        have q3 : (len : Int) ≤ (c : Int) := by have := HNC.out; omega
        clear hrw hok c0 c3
        obtain ⟨r, L1, hE1⟩ : ∃ r L1, linkP L xa xb = (r, L1) := ⟨_, _, rfl⟩
        have HE1 := Lib.hid hE1
        have HE2 := Lib.hid (show linkP L1 xb xa = (false, L1) by have h9 := linkP_again (L := L) (a := xa) (b := xb); rw [hE1] at h9; exact h9)
        have HRN := Lib.hid (show r = true → xa ≠ xb by have h9 := linkP_ne (L := L) (a := xa) (b := xb); rw [hE1] at h9; exact h9)
        have HL1 := Lib.hid (show L1.length ≤ 2 * (k + 1) by have h9 := linkP_len (L := L) (a := xa) (b := xb); rw [hE1] at h9; have := HLL.out; simp only at h9; omega)
        clear hE1
        go_upto_region 9 with (fail)
        go_still_tail 11, (by kernel_rfl)
        refine wpList_world (fun U => LK W U pm b1 b2 (4 * k) L K) (HLK.out.keep (Below.refl _ _).drew) ?_
        clear c1 c2 HLK
        rintro U0 hu
        have HU0 := Lib.hid hu
        clear hu
        go_upto_region 10 with (go_at_call 10; refine (link_w HU0.out xa xb HA.out HB.out (by omega) HE1.out).mono ?_; rintro e U1 ⟨rfl, hu, _⟩; have HU1 := Lib.hid hu; clear hu)
        refine wp_world (fun U => LK W U pm b1 b2 (4 * k + 1) L1 K) HU1.out ?_
        clear HU0 HU1
        rintro U1 hu
        have HU1 := Lib.hid hu
        obtain ⟨_, c1, c2, _⟩ := HRW.out U1 hu.old
        clear hu
        simp only at c1 c2
        go_still_tail 11, (by kernel_rfl)
        refine wpList_world (fun U => LK W U pm b1 b2 (4 * k + 1) L1 K) (HU1.out.keep (Below.refl _ _).drew) ?_
        clear c1 c2 HU1
        rintro U2 hu
        have HU2 := Lib.hid hu
        clear hu
        go_upto_region 11 with (go_at_call 10; refine (link_w HU2.out xb xa HB.out HA.out (by omega) HE2.out).mono ?_; rintro e U3 ⟨rfl, hu, _⟩; have HU3 := Lib.hid hu; clear hu)
        refine wp_world (fun U => LK W U pm b1 b2 (4 * k + 2) L1 K) HU3.out ?_
        clear HU2 HU3
        rintro U3 hu
        have HU3 := Lib.hid hu
        obtain ⟨_, c1, c2, _⟩ := HRW.out U3 hu.old
        clear hu
        simp only at c1 c2
        have hcase : (r = true ∧ (xa == xb) = false) ∨ r = false := by
          cases r with
          | true => exact .inl ⟨rfl, by simpa using HRN.out rfl⟩
          | false => exact .inr rfl
        have HXK := Lib.hid (show i64ok (k : Int) by unfold i64ok; omega)
        have HF1 := Lib.hid (show watchP K ⟨(k : Int), xa, xb⟩ = (0, insG keyW ⟨(k : Int), xa, xb⟩ K) from watchP_new fun y hy e => by have := HKR.out y hy; simp only at e; omega)
        rcases hcase with ⟨rfl, d1⟩ | rfl
        case' inl =>
          go_quiet (fail)
          go_upto_region 13 with (fail)
          refine wp_world (fun U => LK W U pm b1 b2 (4 * k + 2) L1 K) (HU3.out.keep (below_drewN (Below.refl _ _) _)) ?_
        case' inr =>
          go_quiet (fail)
          go_upto_region 13 with (fail)
          refine wp_world (fun U => LK W U pm b1 b2 (4 * k + 2) L1 K) (HU3.out.keep (below_drewN (Below.refl _ _) _)) ?_
        all_goals
          clear c1 c2 HU3
          rintro U4 hu
          have HU4 := Lib.hid hu
          obtain ⟨_, c1, c2, _⟩ := HRW.out U4 hu.old
          clear hu
          simp only at c1 c2
          have HLK5 := Lib.hid (fun (V : World) (h : LK W V pm b1 b2 (4 * k + 2) L1 K) => watch_w h ⟨(k : Int), xa, xb⟩ ⟨HXK.out, HA.out, HB.out⟩ (by omega) HF1.out)
          simp only at HLK5
          have HLK6 := Lib.hid (fun (V : World) (h : LK W V pm b1 b2 (4 * k + 3) L1 (insG keyW ⟨(k : Int), xa, xb⟩ K)) => watch_w h ⟨(k : Int), 0, 0⟩ ⟨HXK.out, i64s (by simp), i64s (by simp)⟩ (by omega) (watchP_old (knd_map h.lk.knd) (mem_insW.2 (.inl rfl)) rfl))
          simp only at HLK6
          have HS : Hid (∀ V, Below W.heap.size W V → V.cell? ⟨g, off + k * 4 + 1, none⟩ = some (.int .i64 xa) ∧ V.cell? ⟨g, off + k * 4 + 2, none⟩ = some (.int .i64 xb)) := fun V hb => by
            obtain ⟨_, h1, h2, _⟩ := HRW.out V hb
            exact ⟨h1, h2⟩
          have HBD := Lib.hid (HU4.out.keep (Below.refl _ _).drew)
          go_region_held3 (fun V => V.cell? ⟨g, off + k * 4 + 1, none⟩ = some (.int .i64 xa) ∧ V.cell? ⟨g, off + k * 4 + 2, none⟩ = some (.int .i64 xb))
            (first | exact HS.out _ HU7.out.old | exact HS.out _ HU6.out.old | exact HS.out _ HBD.out.old)
            ((first
            | (go_at_call 11; first
              | ((with_reducible refine (HLK5.out _ HBD.out).mono ?_); rintro e U6 ⟨rfl, hu, _⟩; have HU6 := Lib.hid hu; clear hu)
              | ((with_reducible refine (HLK6.out _ HU6.out).mono ?_); rintro e U7 ⟨rfl, hu, _⟩; have HU7 := Lib.hid hu; clear hu))
            | (go_at_call 15; refine (lnum_v _ _).mono ?_; rintro e w' ⟨rfl, rfl⟩)))
          go_wp2
          have HEN := Lib.hid (HU7.out.mono (show 4 * k + 4 ≤ 4 * (k + 1) by omega))
          go_roundw
          case rel => exact ⟨k + 1, L1, _, hlt, by go_num, HEN.out, HL1.out, by rw [insG_len]; have := HKL.out; omega, refs_ins rfl HKR.out⟩
          case measure => simp [intOf]; omega
      · obtain rfl : k = len := by omega
        have hd1 : decide (k < k) = false := by simp
        have HLB := Lib.hid (show L.length ≤ 1000000 by have := HLL.out; omega)
        have HKB := Lib.hid (show K.length ≤ 1000000 by have := HKL.out; omega)
        have HOF := Lib.hid (of_v HLK.out who HLB.out)
        have HD1 := Lib.hid (fun V (h : LK W V pm b1 b2 (4 * k) L K) => drop_w h who HW.out HLB.out HKB.out)
        have HD2 : Hid (∀ V (h : LK W V pm b1 b2 (4 * k) (offP who L) (onK who K)), Calls Try.prog 12 #[.pointer (some ⟨pm, 0, none⟩), .int .i64 who] V fun e w' => ∃ B1 x1 B2 x2, e = .returned (.tuple #[.slice B1 0 x1, .slice B2 0 x2]) ∧ LK W w' pm b1 b2 (4 * k) (offP who L) (onK who K) ∧ Fr (fun k => k = b1 ∨ k = b2) V w') := fun V h => by
          refine (drop_w h who HW.out (Nat.le_trans (List.length_filter_le _ _) HLB.out) (Nat.le_trans (List.length_filter_le _ _) HKB.out)).mono fun e w' h9 => ?_
          obtain ⟨v1, v2, rfl, h1, h2, h3, h4⟩ := h9
          rw [ofP_off] at h1
          rw [told_on] at h2
          rw [offP_off, onK_on] at h3
          obtain ⟨B1, x1, rfl⟩ := own_slice9 h1
          obtain ⟨B2, x2, rfl⟩ := own_slice9 h2
          exact ⟨B1, x1, B2, x2, rfl, h3, h4⟩
        have HHI := Lib.hid HLK.out.hi
        obtain ⟨zs, hzs⟩ : ∃ zs, ofP L who = zs := ⟨_, rfl⟩
        obtain ⟨ts, hts⟩ : ∃ ts, toldP who (wsP K) = ts := ⟨_, rfl⟩
        have HZB := Lib.hid (show zs.length ≤ 1000000 by rw [← hzs]; exact Nat.le_trans ofP_len HLB.out)
        have HZO : Hid (∀ z ∈ zs, i64ok z) := fun z hz => by rw [← hzs] at hz; exact ofP_ok HLK.out.lk hz
        have HTM : Hid (∀ x ∈ ts, x.to = who ∧ i64ok x.ref ∧ unwatchP (onK who K) x.ref x.fr = (false, onK who K)) := fun x hx => by
          rw [← hts] at hx
          exact ⟨(told_mem.1 hx).2, (HLK.out.lk.kok x (told_mem.1 hx).1).1, unwatch_told HLK.out.lk.knd hx⟩
        have HTO := Lib.hid (show wsOrd ts by rw [← hts]; exact told_ord HLK.out.lk.knd)
        have HTB := Lib.hid (show ts.length ≤ 1000000 by rw [← hts]; exact Nat.le_trans (List.length_filter_le _ _) (by rw [(wsP_perm K).length_eq]; exact HKB.out))
        rw [hzs] at HOF HD1
        rw [hts] at HD1
        clear hzs hts
        go_upto_region 18 with (first
          | (go_at_call 13; refine HOF.out.mono ?_; rintro e V1 ⟨va, rfl, hr1, hb1⟩; have HV1 := Lib.hid (HLK.out.keep hb1); have HR1 := Lib.hid hr1; have HS1 := Lib.hid hb1.size; clear hr1 hb1)
          | (go_at_call 12; first
            | ((with_reducible refine (HD1.out _ HV1.out).mono ?_); rintro e V2 ⟨vb, vc, rfl, hr2, hr3, hv2, hf2⟩; have HV2 := Lib.hid hv2; have HR2 := Lib.hid hr2; have HR3 := Lib.hid hr3; have HF2 := Lib.hid hf2; clear hr2 hr3 hv2 hf2)
            | ((with_reducible refine (HD2.out _ HV2.out).mono ?_); rintro e V3 ⟨B1, x1, B2, x2, rfl, hv3, hf3⟩; have HV3 := Lib.hid hv3; have HF3 := Lib.hid hf3; clear hv3 hf3)))
        have HA3 := Lib.hid (own_fr9 (own_fr9 HR1.out HF2.out (fun g hg hF => by have h9 := (World.ownsRow.lt HR1.out g hg).1; have := HHI.out; omega)) HF3.out (fun g hg hF => by have h9 := (World.ownsRow.lt HR1.out g hg).1; have := HHI.out; omega))
        have HB3 := Lib.hid (own_fr9 HR2.out HF3.out (fun g hg hF => by have h9 := (World.ownsRow.lt HR2.out g hg).1; have := HHI.out; have := HS1.out; omega))
        have HC3 := Lib.hid (own_fr9 HR3.out HF3.out (fun g hg hF => by have h9 := (World.ownsRow.lt HR3.out g hg).1; have := HHI.out; have := HS1.out; omega))
        have HNUM := Lib.hid (numbers_v ⟨_, HB3.out⟩ ⟨_, HA3.out⟩ HZB.out HZB.out)
        rw [show decide (zs = zs) = true from decide_eq_true rfl] at HNUM
        go_upto_region 20 with (go_at_call 16; refine HNUM.out.mono ?_; rintro e V4 ⟨rfl, hb4⟩; have HV4 := Lib.hid (HV3.out.keep hb4); have HB4 := Lib.hid (own_bel HB3.out hb4); have HC4 := Lib.hid (own_bel HC3.out hb4); clear hb4)
        obtain ⟨Bb, m, xb, rfl, hm⟩ : ∃ B m x, vb = .slice B m x ∧ zs.length = m := by
          obtain ⟨B, x, h9⟩ := own_slice9 HB4.out
          exact ⟨B, _, x, h9, rfl⟩
        obtain ⟨Bc, q, xc, rfl, hq⟩ : ∃ B m x, vc = .slice B m x ∧ ts.length = m := by
          obtain ⟨B, x, h9⟩ := own_slice9 HC4.out
          exact ⟨B, _, x, h9, rfl⟩
        have hmb : m ≤ 1000000 := by have := HZB.out; omega
        have hqb : q ≤ 1000000 := by have := HTB.out; omega
        rw [hm] at HB4
        rw [hq] at HC4
        have HM := Lib.hid hm
        have HQ := Lib.hid hq
        have HNB : Hid (∀ g, (Value.slice Bb m xb).ownBlock = some g → g ≠ b1 ∧ g ≠ b2) := fun g hg => by have h9 := (World.ownsRow.lt HB4.out g hg).1; have := HHI.out; have := HS1.out; omega
        have HNC4 : Hid (∀ g, (Value.slice Bc q xc).ownBlock = some g → g ≠ b1 ∧ g ≠ b2) := fun g hg => by have h9 := (World.ownsRow.lt HC4.out g hg).1; have := HHI.out; have := HS1.out; omega
        clear hm hq HR1 HR2 HR3 HA3 HB3 HC3 HF2 HF3 HV1 HV2 HV3 HNUM HOF HD1 HD2
        go_wp2
        go_loopw [14] (fun i wr => ∃ j : Nat, j ≤ q ∧ i = .int .i64 (j : Int) ∧ LK W wr pm b1 b2 (4 * k) (offP who L) (onK who K) ∧ Fr (fun k => k = b1 ∨ k = b2) V4 wr) (fun i _ => q + 1 - (intOf i).toNat)
        case atStart => exact ⟨0, Nat.zero_le _, rfl, HV4.out, .refl _ _⟩
        case round =>
          obtain ⟨j, hj, rfl, hv5, hf5⟩ := hrel
          have HV5 := Lib.hid hv5
          have HF5 := Lib.hid hf5
          clear hv5 hf5
          by_cases hlt2 : j < q
          · have hlt2' : decide (j < q) = true := by simpa using hlt2
            have hjt : j < ts.length := by rw [HQ.out]; exact hlt2
            have hrw := own_fr9 HC4.out HF5.out (fun g hg hF => by have := HNC4.out g hg; omega)
            obtain ⟨g, rfl, hqc⟩ := own_at9 (g := 0) (c := xc) hrw (by omega)
            obtain ⟨z0, z1, z2⟩ := cellW hrw hjt HQ.out
            obtain ⟨hto, hrf, hun⟩ := HTM.out _ (List.getElem_mem hjt)
            have HUN := Lib.hid hun
            have HRF := Lib.hid hrf
            have HCL : Hid (∀ V, Fr (fun k => k = b1 ∨ k = b2) V4 V → V.cell? ⟨g, j * 3, none⟩ = some (.int .i64 ts[j].ref) ∧ V.cell? ⟨g, j * 3 + 1, none⟩ = some (.int .i64 ts[j].fr) ∧ V.cell? ⟨g, j * 3 + 2, none⟩ = some (.int .i64 ts[j].to)) := fun V hf =>
              cellW (own_fr9 HC4.out hf (fun g hg hF => by have := HNC4.out g hg; omega)) hjt HQ.out
            have d1 : (ts[j].to != who) = false := by simpa using hto
            have q1 : (0 : Int) ≤ (j : Int) := by omega
            have q2 : (j : Int) < (q : Int) := by omega
            clear hto hun hrf
            by_cases hj0 : j = 0
            · subst hj0
              generalize ts[0] = x at z0 z1 z2 d1 HUN HRF HCL
              have HCL0 : Hid (∀ V, Fr (fun k => k = b1 ∨ k = b2) V4 V → V.cell? ⟨g, 0, none⟩ = some (.int .i64 x.ref) ∧ V.cell? ⟨g, 1, none⟩ = some (.int .i64 x.fr) ∧ V.cell? ⟨g, 2, none⟩ = some (.int .i64 x.to)) := fun V hf => by simpa using HCL.out V hf
              rw [show ((0 : Nat) : Int) = 0 from rfl]
              clear hrw HCL q1 q2
              have q2 : (0 : Int) < (q : Int) := by omega
              go_upto_region 23 with (fail)
              have HFD := Lib.hid (HF5.out.same (Fr.of_below (Below.refl wr.heap.size wr).drew _))
              have HVD := Lib.hid (HV5.out.keep (Below.refl _ _).drew)
              clear z0 z1 z2
              refine wp_region_W 37 (fun V => V.cell? ⟨g, 0, none⟩ = some (.int .i64 x.ref) ∧ V.cell? ⟨g, 1, none⟩ = some (.int .i64 x.fr) ∧ V.cell? ⟨g, 2, none⟩ = some (.int .i64 x.to)) (by kernel_rfl) ?_ (fun hS0 => ?_)
              · exact HCL0.out _ HFD.out
              (refine wpAnyW_take (i := 0) (v := ?_) rfl (by kernel_rfl) (by kernel_rfl) (by kernel_rfl) (by kernel_rfl) (fun _ _ _ h => h) (Or.inl ⟨by kernel_rfl, ?_⟩) (by assumption) ?_; rotate_left; focus (intro V9 hS9; obtain ⟨k0, k1, k2⟩ := hS9; go_simp; (try (with_reducible rfl)); done))
              try simp only [Act.put, List.getElem_toArray, List.getElem_cons_zero, List.setIfInBounds_toArray, List.set_cons_succ, List.set_cons_zero]
              (refine wpAnyW_take (i := 1) (v := ?_) rfl (by kernel_rfl) (by kernel_rfl) (by kernel_rfl) (by kernel_rfl) (fun _ _ _ h => h) (Or.inl ⟨by kernel_rfl, ?_⟩) (by assumption) ?_; rotate_left; focus (intro V9 hS9; obtain ⟨k0, k1, k2⟩ := hS9; go_simp; (try (with_reducible rfl)); done))
              try simp only [Act.put, List.getElem_toArray, List.getElem_cons_succ, List.getElem_cons_zero, List.setIfInBounds_toArray, List.set_cons_succ, List.set_cons_zero]
              (refine wpAnyW_take (i := 2) (v := ?_) rfl (by kernel_rfl) (by kernel_rfl) (by kernel_rfl) (by kernel_rfl) (fun _ _ _ h => h) (Or.inl ⟨by kernel_rfl, ?_⟩) (by assumption) ?_; rotate_left; focus (intro V9 hS9; obtain ⟨k0, k1, k2⟩ := hS9; go_simp; (try (with_reducible rfl)); done))
              try simp only [Act.put, List.getElem_toArray, List.getElem_cons_succ, List.getElem_cons_zero, List.setIfInBounds_toArray, List.set_cons_succ, List.set_cons_zero]
              (refine wpAnyW_take (i := 3) (v := ?_) rfl (by kernel_rfl) (by kernel_rfl) (by kernel_rfl) (by kernel_rfl) (fun _ _ _ h => h) (Or.inl ⟨by kernel_rfl, ?_⟩) (by assumption) ?_; rotate_left; focus (intro V9 hS9; obtain ⟨k0, k1, k2⟩ := hS9; go_simp; (try (with_reducible rfl)); done))
              try simp only [Act.put, List.getElem_toArray, List.getElem_cons_succ, List.getElem_cons_zero, List.setIfInBounds_toArray, List.set_cons_succ, List.set_cons_zero]
              (refine wpAnyW_take (i := 4) (v := ?_) rfl (by kernel_rfl) (by kernel_rfl) (by kernel_rfl) (by kernel_rfl) (fun _ _ _ h => h) (Or.inl ⟨by kernel_rfl, ?_⟩) (by assumption) ?_; rotate_left; focus (intro V9 hS9; obtain ⟨k0, k1, k2⟩ := hS9; go_simp; (try (with_reducible rfl)); done))
              try simp only [Act.put, List.getElem_toArray, List.getElem_cons_succ, List.getElem_cons_zero, List.setIfInBounds_toArray, List.set_cons_succ, List.set_cons_zero]
              (refine wpAnyW_take (i := 5) (v := ?_) rfl (by kernel_rfl) (by kernel_rfl) (by kernel_rfl) (by kernel_rfl) (fun _ _ _ h => h) (Or.inl ⟨by kernel_rfl, ?_⟩) (by assumption) ?_; rotate_left; focus (intro V9 hS9; obtain ⟨k0, k1, k2⟩ := hS9; go_simp; (try (with_reducible rfl)); done))
              try simp only [Act.put, List.getElem_toArray, List.getElem_cons_succ, List.getElem_cons_zero, List.setIfInBounds_toArray, List.set_cons_succ, List.set_cons_zero]
              (refine wpAnyW_take (i := 6) (v := ?_) rfl (by kernel_rfl) (by kernel_rfl) (by kernel_rfl) (by kernel_rfl) (fun _ _ _ h => h) (Or.inl ⟨by kernel_rfl, ?_⟩) (by assumption) ?_; rotate_left; focus (intro V9 hS9; obtain ⟨k0, k1, k2⟩ := hS9; go_simp; (try (with_reducible rfl)); done))
              try simp only [Act.put, List.getElem_toArray, List.getElem_cons_succ, List.getElem_cons_zero, List.setIfInBounds_toArray, List.set_cons_succ, List.set_cons_zero]
              (refine wpAnyW_take (i := 7) (v := ?_) rfl (by kernel_rfl) (by kernel_rfl) (by kernel_rfl) (by kernel_rfl) (fun _ _ _ h => h) (Or.inl ⟨by kernel_rfl, ?_⟩) (by assumption) ?_; rotate_left; focus (intro V9 hS9; obtain ⟨k0, k1, k2⟩ := hS9; go_simp; (try (with_reducible rfl)); done))
              try simp only [Act.put, List.getElem_toArray, List.getElem_cons_succ, List.getElem_cons_zero, List.setIfInBounds_toArray, List.set_cons_succ, List.set_cons_zero]
              (refine wpAnyW_take (i := 8) (v := ?_) rfl (by kernel_rfl) (by kernel_rfl) (by kernel_rfl) (by kernel_rfl) (fun _ _ _ h => h) (Or.inl ⟨by kernel_rfl, ?_⟩) (by assumption) ?_; rotate_left; focus (intro V9 hS9; obtain ⟨k0, k1, k2⟩ := hS9; go_simp; (try (with_reducible rfl)); done))
              try simp only [Act.put, List.getElem_toArray, List.getElem_cons_succ, List.getElem_cons_zero, List.setIfInBounds_toArray, List.set_cons_succ, List.set_cons_zero]
              (refine wpAnyW_take (i := 9) (v := ?_) rfl (by kernel_rfl) (by kernel_rfl) (by kernel_rfl) (by kernel_rfl) (fun _ _ _ h => h) (Or.inl ⟨by kernel_rfl, ?_⟩) (by assumption) ?_; rotate_left; focus (intro V9 hS9; obtain ⟨k0, k1, k2⟩ := hS9; go_simp; (try (with_reducible rfl)); done))
              try simp only [Act.put, List.getElem_toArray, List.getElem_cons_succ, List.getElem_cons_zero, List.setIfInBounds_toArray, List.set_cons_succ, List.set_cons_zero]
              (refine wpAnyW_take (i := 10) (v := ?_) rfl (by kernel_rfl) (by kernel_rfl) (by kernel_rfl) (by kernel_rfl) (fun _ _ _ h => h) (Or.inl ⟨by kernel_rfl, ?_⟩) (by assumption) ?_; rotate_left; focus (intro V9 hS9; obtain ⟨k0, k1, k2⟩ := hS9; go_simp; (try (with_reducible rfl)); done))
              try simp only [Act.put, List.getElem_toArray, List.getElem_cons_succ, List.getElem_cons_zero, List.setIfInBounds_toArray, List.set_cons_succ, List.set_cons_zero]
              (refine wpAnyW_take (i := 11) (v := undef) rfl (by kernel_rfl) (by kernel_rfl) (by kernel_rfl) (by kernel_rfl) (fun _ _ _ h => h) (Or.inr ⟨by rfl, rfl⟩) (by assumption) ?_)
              try simp only [Act.put, List.getElem_toArray, List.getElem_cons_succ, List.getElem_cons_zero, List.setIfInBounds_toArray, List.set_cons_succ, List.set_cons_zero]
              (refine wpAnyW_take (i := 12) (v := undef) rfl (by kernel_rfl) (by kernel_rfl) (by kernel_rfl) (by kernel_rfl) (fun _ _ _ h => h) (Or.inr ⟨by rfl, rfl⟩) (by assumption) ?_)
              try simp only [Act.put, List.getElem_toArray, List.getElem_cons_succ, List.getElem_cons_zero, List.setIfInBounds_toArray, List.set_cons_succ, List.set_cons_zero]
              (refine wpAnyW_take (i := 13) (v := undef) rfl (by kernel_rfl) (by kernel_rfl) (by kernel_rfl) (by kernel_rfl) (fun _ _ _ h => h) (Or.inr ⟨by rfl, rfl⟩) (by assumption) ?_)
              try simp only [Act.put, List.getElem_toArray, List.getElem_cons_succ, List.getElem_cons_zero, List.setIfInBounds_toArray, List.set_cons_succ, List.set_cons_zero]
              (refine wpAnyW_take (i := 14) (v := undef) rfl (by kernel_rfl) (by kernel_rfl) (by kernel_rfl) (by kernel_rfl) (fun _ _ _ h => h) (Or.inr ⟨by rfl, rfl⟩) (by assumption) ?_)
              try simp only [Act.put, List.getElem_toArray, List.getElem_cons_succ, List.getElem_cons_zero, List.setIfInBounds_toArray, List.set_cons_succ, List.set_cons_zero]
              (refine wpAnyW_take (i := 15) (v := undef) rfl (by kernel_rfl) (by kernel_rfl) (by kernel_rfl) (by kernel_rfl) (fun _ _ _ h => h) (Or.inr ⟨by rfl, rfl⟩) (by assumption) ?_)
              try simp only [Act.put, List.getElem_toArray, List.getElem_cons_succ, List.getElem_cons_zero, List.setIfInBounds_toArray, List.set_cons_succ, List.set_cons_zero]
              (refine wpAnyW_take (i := 16) (v := undef) rfl (by kernel_rfl) (by kernel_rfl) (by kernel_rfl) (by kernel_rfl) (fun _ _ _ h => h) (Or.inr ⟨by rfl, rfl⟩) (by assumption) ?_)
              try simp only [Act.put, List.getElem_toArray, List.getElem_cons_succ, List.getElem_cons_zero, List.setIfInBounds_toArray, List.set_cons_succ, List.set_cons_zero]
              (refine wpAnyW_take (i := 17) (v := undef) rfl (by kernel_rfl) (by kernel_rfl) (by kernel_rfl) (by kernel_rfl) (fun _ _ _ h => h) (Or.inr ⟨by rfl, rfl⟩) (by assumption) ?_)
              try simp only [Act.put, List.getElem_toArray, List.getElem_cons_succ, List.getElem_cons_zero, List.setIfInBounds_toArray, List.set_cons_succ, List.set_cons_zero]
              (refine wpAnyW_take (i := 18) (v := undef) rfl (by kernel_rfl) (by kernel_rfl) (by kernel_rfl) (by kernel_rfl) (fun _ _ _ h => h) (Or.inr ⟨by rfl, rfl⟩) (by assumption) ?_)
              try simp only [Act.put, List.getElem_toArray, List.getElem_cons_succ, List.getElem_cons_zero, List.setIfInBounds_toArray, List.set_cons_succ, List.set_cons_zero]
              (refine wpAnyW_take (i := 19) (v := undef) rfl (by kernel_rfl) (by kernel_rfl) (by kernel_rfl) (by kernel_rfl) (fun _ _ _ h => h) (Or.inr ⟨by rfl, rfl⟩) (by assumption) ?_)
              try simp only [Act.put, List.getElem_toArray, List.getElem_cons_succ, List.getElem_cons_zero, List.setIfInBounds_toArray, List.set_cons_succ, List.set_cons_zero]
              (refine wpAnyW_take (i := 20) (v := undef) rfl (by kernel_rfl) (by kernel_rfl) (by kernel_rfl) (by kernel_rfl) (fun _ _ _ h => h) (Or.inr ⟨by rfl, rfl⟩) (by assumption) ?_)
              try simp only [Act.put, List.getElem_toArray, List.getElem_cons_succ, List.getElem_cons_zero, List.setIfInBounds_toArray, List.set_cons_succ, List.set_cons_zero]
              (refine wpAnyW_take (i := 21) (v := undef) rfl (by kernel_rfl) (by kernel_rfl) (by kernel_rfl) (by kernel_rfl) (fun _ _ _ h => h) (Or.inr ⟨by rfl, rfl⟩) (by assumption) ?_)
              try simp only [Act.put, List.getElem_toArray, List.getElem_cons_succ, List.getElem_cons_zero, List.setIfInBounds_toArray, List.set_cons_succ, List.set_cons_zero]
              (refine wpAnyW_take (i := 22) (v := undef) rfl (by kernel_rfl) (by kernel_rfl) (by kernel_rfl) (by kernel_rfl) (fun _ _ _ h => h) (Or.inr ⟨by rfl, rfl⟩) (by assumption) ?_)
              try simp only [Act.put, List.getElem_toArray, List.getElem_cons_succ, List.getElem_cons_zero, List.setIfInBounds_toArray, List.set_cons_succ, List.set_cons_zero]
              (refine wpAnyW_take (i := 23) (v := ?_) rfl (by kernel_rfl) (by kernel_rfl) (by kernel_rfl) (by kernel_rfl) (fun _ _ _ h => h) (Or.inl ⟨by kernel_rfl, ?_⟩) (by assumption) ?_; rotate_left; focus (intro V9 hS9; obtain ⟨k0, k1, k2⟩ := hS9; go_simp; (try (with_reducible rfl)); done))
              try simp only [Act.put, List.getElem_toArray, List.getElem_cons_succ, List.getElem_cons_zero, List.setIfInBounds_toArray, List.set_cons_succ, List.set_cons_zero]
              (refine wpAnyW_take (i := 24) (v := ?_) rfl (by kernel_rfl) (by kernel_rfl) (by kernel_rfl) (by kernel_rfl) (fun _ _ _ h => h) (Or.inl ⟨by kernel_rfl, ?_⟩) (by assumption) ?_; rotate_left; focus (intro V9 hS9; obtain ⟨k0, k1, k2⟩ := hS9; go_simp; (try (with_reducible rfl)); done))
              try simp only [Act.put, List.getElem_toArray, List.getElem_cons_succ, List.getElem_cons_zero, List.setIfInBounds_toArray, List.set_cons_succ, List.set_cons_zero]
              (refine wpAnyW_take (i := 25) (v := ?_) rfl (by kernel_rfl) (by kernel_rfl) (by kernel_rfl) (by kernel_rfl) (fun _ _ _ h => h) (Or.inl ⟨by kernel_rfl, ?_⟩) (by assumption) ?_; rotate_left; focus (intro V9 hS9; obtain ⟨k0, k1, k2⟩ := hS9; go_simp; (try (with_reducible rfl)); done))
              try simp only [Act.put, List.getElem_toArray, List.getElem_cons_succ, List.getElem_cons_zero, List.setIfInBounds_toArray, List.set_cons_succ, List.set_cons_zero]
              (refine wpAnyW_take (i := 26) (v := ?_) rfl (by kernel_rfl) (by kernel_rfl) (by kernel_rfl) (by kernel_rfl) (fun _ _ _ h => h) (Or.inl ⟨by kernel_rfl, ?_⟩) (by assumption) ?_; rotate_left; focus (intro V9 hS9; obtain ⟨k0, k1, k2⟩ := hS9; go_simp; (try (with_reducible rfl)); done))
              try simp only [Act.put, List.getElem_toArray, List.getElem_cons_succ, List.getElem_cons_zero, List.setIfInBounds_toArray, List.set_cons_succ, List.set_cons_zero]
              (refine wpAnyW_take (i := 27) (v := ?_) rfl (by kernel_rfl) (by kernel_rfl) (by kernel_rfl) (by kernel_rfl) (fun _ _ _ h => h) (Or.inl ⟨by kernel_rfl, ?_⟩) (by assumption) ?_; rotate_left; focus (intro V9 hS9; obtain ⟨k0, k1, k2⟩ := hS9; go_simp; (try (with_reducible rfl)); done))
              try simp only [Act.put, List.getElem_toArray, List.getElem_cons_succ, List.getElem_cons_zero, List.setIfInBounds_toArray, List.set_cons_succ, List.set_cons_zero]
              (refine wpAnyW_take (i := 28) (v := ?_) rfl (by kernel_rfl) (by kernel_rfl) (by kernel_rfl) (by kernel_rfl) (fun _ _ _ h => h) (Or.inl ⟨by kernel_rfl, ?_⟩) (by assumption) ?_; rotate_left; focus (intro V9 hS9; obtain ⟨k0, k1, k2⟩ := hS9; go_simp; (try (with_reducible rfl)); done))
              try simp only [Act.put, List.getElem_toArray, List.getElem_cons_succ, List.getElem_cons_zero, List.setIfInBounds_toArray, List.set_cons_succ, List.set_cons_zero]
              (refine wpAnyW_take (i := 29) (v := ?_) rfl (by kernel_rfl) (by kernel_rfl) (by kernel_rfl) (by kernel_rfl) (fun _ _ _ h => h) (Or.inl ⟨by kernel_rfl, ?_⟩) (by assumption) ?_; rotate_left; focus (intro V9 hS9; obtain ⟨k0, k1, k2⟩ := hS9; go_simp; (try (with_reducible rfl)); done))
              try simp only [Act.put, List.getElem_toArray, List.getElem_cons_succ, List.getElem_cons_zero, List.setIfInBounds_toArray, List.set_cons_succ, List.set_cons_zero]
              (refine wpAnyW_take (i := 30) (v := ?_) rfl (by kernel_rfl) (by kernel_rfl) (by kernel_rfl) (by kernel_rfl) (fun _ _ _ h => h) (Or.inl ⟨by kernel_rfl, ?_⟩) (by assumption) ?_; rotate_left; focus (intro V9 hS9; obtain ⟨k0, k1, k2⟩ := hS9; go_simp; (try (with_reducible rfl)); done))
              try simp only [Act.put, List.getElem_toArray, List.getElem_cons_succ, List.getElem_cons_zero, List.setIfInBounds_toArray, List.set_cons_succ, List.set_cons_zero]
              (refine wpAnyW_take (i := 31) (v := ?_) rfl (by kernel_rfl) (by kernel_rfl) (by kernel_rfl) (by kernel_rfl) (fun _ _ _ h => h) (Or.inl ⟨by kernel_rfl, ?_⟩) (by assumption) ?_; rotate_left; focus (intro V9 hS9; obtain ⟨k0, k1, k2⟩ := hS9; go_simp; (try (with_reducible rfl)); done))
              try simp only [Act.put, List.getElem_toArray, List.getElem_cons_succ, List.getElem_cons_zero, List.setIfInBounds_toArray, List.set_cons_succ, List.set_cons_zero]
              (refine wpAnyW_take (i := 32) (v := ?_) rfl (by kernel_rfl) (by kernel_rfl) (by kernel_rfl) (by kernel_rfl) (fun _ _ _ h => h) (Or.inl ⟨by kernel_rfl, ?_⟩) (by assumption) ?_; rotate_left; focus (intro V9 hS9; obtain ⟨k0, k1, k2⟩ := hS9; go_simp; (try (with_reducible rfl)); done))
              try simp only [Act.put, List.getElem_toArray, List.getElem_cons_succ, List.getElem_cons_zero, List.setIfInBounds_toArray, List.set_cons_succ, List.set_cons_zero]
              (refine wpAnyW_take (i := 33) (v := ?_) rfl (by kernel_rfl) (by kernel_rfl) (by kernel_rfl) (by kernel_rfl) (fun _ _ _ h => h) (Or.inl ⟨by kernel_rfl, ?_⟩) (by assumption) ?_; rotate_left; focus (intro V9 hS9; obtain ⟨k0, k1, k2⟩ := hS9; go_simp; (try (with_reducible rfl)); done))
              try simp only [Act.put, List.getElem_toArray, List.getElem_cons_succ, List.getElem_cons_zero, List.setIfInBounds_toArray, List.set_cons_succ, List.set_cons_zero]
              (refine wpAnyW_take (i := 34) (v := ?_) rfl (by kernel_rfl) (by kernel_rfl) (by kernel_rfl) (by kernel_rfl) (fun _ _ _ h => h) (Or.inl ⟨by kernel_rfl, ?_⟩) (by assumption) ?_; rotate_left; focus (intro V9 hS9; obtain ⟨k0, k1, k2⟩ := hS9; go_simp; (try (with_reducible rfl)); done))
              try simp only [Act.put, List.getElem_toArray, List.getElem_cons_succ, List.getElem_cons_zero, List.setIfInBounds_toArray, List.set_cons_succ, List.set_cons_zero]
              (refine wpAnyW_take (i := 35) (v := ?_) rfl (by kernel_rfl) (by kernel_rfl) (by kernel_rfl) (by kernel_rfl) (fun _ _ _ h => h) (Or.inl ⟨by kernel_rfl, ?_⟩) (by assumption) ?_; rotate_left; focus (intro V9 hS9; obtain ⟨k0, k1, k2⟩ := hS9; go_simp; (try (with_reducible rfl)); done))
              try simp only [Act.put, List.getElem_toArray, List.getElem_cons_succ, List.getElem_cons_zero, List.setIfInBounds_toArray, List.set_cons_succ, List.set_cons_zero]
              (refine wpAnyW_take (i := 36) (v := ?_) rfl (by kernel_rfl) (by kernel_rfl) (by kernel_rfl) (by kernel_rfl) (fun _ _ _ h => h) (Or.inl ⟨by kernel_rfl, ?_⟩) (by assumption) ?_; rotate_left; focus (intro V9 hS9; obtain ⟨k0, k1, k2⟩ := hS9; go_simp; (try (with_reducible rfl)); done))
              try simp only [Act.put, List.getElem_toArray, List.getElem_cons_succ, List.getElem_cons_zero, List.setIfInBounds_toArray, List.set_cons_succ, List.set_cons_zero]
              refine wpAnyW_ready (rs := [37]) (by kernel_rfl) (by simp) ?_
              refine AllReadyW.consE rfl (by kernel_rfl) (fun K hK => ?_) AllReadyW.nil
              go_simp
              refine (unwatch_w HVD.out x.ref x.fr HRF.out HUN.out).mono ?_
              rintro e U1 ⟨rfl, hu, hf⟩
              have HU1 := Lib.hid hu
              have HG1 := Lib.hid (HFD.out.same hf)
              clear hu hf
              refine hK.out _ _ ?_
              clear hK K
              try simp only [Act.put, List.getElem_toArray, List.getElem_cons_succ, List.getElem_cons_zero, List.setIfInBounds_toArray, List.set_cons_succ, List.set_cons_zero]
              refine wpAnyW_ready (rs := [38]) (by kernel_rfl) (by simp) ?_
              refine AllReadyW.consE rfl (by kernel_rfl) (fun K hK => ?_) AllReadyW.nil
              go_simp
              refine hK.out _ _ ?_
              clear hK K
              refine wpAnyW_done (by kernel_rfl) ?_ _
              go_wp2
              go_roundw
              case rel => exact ⟨1, hlt2, rfl, HU1.out, HG1.out⟩
              case measure => simp [intOf]
            · have hjp : j - 1 < ts.length := by omega
              have HCM4 : Hid (∀ V, Fr (fun k => k = b1 ∨ k = b2) V4 V → V.cell? ⟨g, j * 3, none⟩ = some (.int .i64 ts[j].ref) ∧ V.cell? ⟨g, j * 3 + 1, none⟩ = some (.int .i64 ts[j].fr) ∧ V.cell? ⟨g, j * 3 + 2, none⟩ = some (.int .i64 ts[j].to) ∧ V.cell? ⟨g, (j - 1) * 3, none⟩ = some (.int .i64 ts[j - 1].ref)) := fun V hf => by
                have h9 := own_fr9 HC4.out hf (fun g hg hF => by have := HNC4.out g hg; omega)
                obtain ⟨h1, h2, h3⟩ := cellW h9 hjt HQ.out
                exact ⟨h1, h2, h3, (cellW h9 hjp HQ.out).1⟩
              have d3 : decide (ts[j].ref ≤ ts[j - 1].ref) = false := by
                have h9 := List.pairwise_iff_getElem.1 HTO.out (j - 1) j hjp hjt (by omega)
                simp
                omega
              clear HCL
              generalize ts[j] = x at z0 z1 z2 d1 d3 HUN HRF HCM4
              generalize ts[j - 1] = y at d3 HCM4
              have d2 : decide ((0 : Int) < (j : Int)) = true := by simp; omega
              have d2' : decide (0 < j) = true := by simp; omega
              have q4 : (0 : Int) ≤ (j : Int) - 1 := by omega
              have q4' : (1 : Int) ≤ (j : Int) := by omega
              have q5 : (j : Int) - 1 < (q : Int) := by omega
              clear hj0 hrw
              go_upto_region 23 with (fail)
              have HFD := Lib.hid (HF5.out.same (Fr.of_below (Below.refl wr.heap.size wr).drew _))
              have HVD := Lib.hid (HV5.out.keep (Below.refl _ _).drew)
              clear z0 z1 z2
              have e1 : ((j : Int) - 1).toNat = j - 1 := by omega
              have e2 : IntKind.i64.wrap ((j : Int) - 1) = (j : Int) - 1 := IntWalk.i64_in _ (by omega)
              refine wp_region_W 37 (fun V => V.cell? ⟨g, j * 3, none⟩ = some (.int .i64 x.ref) ∧ V.cell? ⟨g, j * 3 + 1, none⟩ = some (.int .i64 x.fr) ∧ V.cell? ⟨g, j * 3 + 2, none⟩ = some (.int .i64 x.to) ∧ V.cell? ⟨g, (j - 1) * 3, none⟩ = some (.int .i64 y.ref)) (by kernel_rfl) ?_ (fun hS0 => ?_)
              · exact HCM4.out _ HFD.out
              (refine wpAnyW_take (i := 0) (v := ?_) rfl (by kernel_rfl) (by kernel_rfl) (by kernel_rfl) (by kernel_rfl) (fun _ _ _ h => h) (Or.inl ⟨by kernel_rfl, ?_⟩) (by assumption) ?_; rotate_left; focus (intro V9 hS9; obtain ⟨k0, k1, k2, k3⟩ := hS9; go_simp; (try (with_reducible rfl)); done))
              try simp only [Act.put, List.getElem_toArray, List.getElem_cons_zero, List.setIfInBounds_toArray, List.set_cons_succ, List.set_cons_zero]
              (refine wpAnyW_take (i := 1) (v := ?_) rfl (by kernel_rfl) (by kernel_rfl) (by kernel_rfl) (by kernel_rfl) (fun _ _ _ h => h) (Or.inl ⟨by kernel_rfl, ?_⟩) (by assumption) ?_; rotate_left; focus (intro V9 hS9; obtain ⟨k0, k1, k2, k3⟩ := hS9; go_simp; (try (with_reducible rfl)); done))
              try simp only [Act.put, List.getElem_toArray, List.getElem_cons_succ, List.getElem_cons_zero, List.setIfInBounds_toArray, List.set_cons_succ, List.set_cons_zero]
              (refine wpAnyW_take (i := 2) (v := ?_) rfl (by kernel_rfl) (by kernel_rfl) (by kernel_rfl) (by kernel_rfl) (fun _ _ _ h => h) (Or.inl ⟨by kernel_rfl, ?_⟩) (by assumption) ?_; rotate_left; focus (intro V9 hS9; obtain ⟨k0, k1, k2, k3⟩ := hS9; go_simp; (try (with_reducible rfl)); done))
              try simp only [Act.put, List.getElem_toArray, List.getElem_cons_succ, List.getElem_cons_zero, List.setIfInBounds_toArray, List.set_cons_succ, List.set_cons_zero]
              (refine wpAnyW_take (i := 3) (v := ?_) rfl (by kernel_rfl) (by kernel_rfl) (by kernel_rfl) (by kernel_rfl) (fun _ _ _ h => h) (Or.inl ⟨by kernel_rfl, ?_⟩) (by assumption) ?_; rotate_left; focus (intro V9 hS9; obtain ⟨k0, k1, k2, k3⟩ := hS9; go_simp; (try (with_reducible rfl)); done))
              try simp only [Act.put, List.getElem_toArray, List.getElem_cons_succ, List.getElem_cons_zero, List.setIfInBounds_toArray, List.set_cons_succ, List.set_cons_zero]
              (refine wpAnyW_take (i := 4) (v := ?_) rfl (by kernel_rfl) (by kernel_rfl) (by kernel_rfl) (by kernel_rfl) (fun _ _ _ h => h) (Or.inl ⟨by kernel_rfl, ?_⟩) (by assumption) ?_; rotate_left; focus (intro V9 hS9; obtain ⟨k0, k1, k2, k3⟩ := hS9; go_simp; (try (with_reducible rfl)); done))
              try simp only [Act.put, List.getElem_toArray, List.getElem_cons_succ, List.getElem_cons_zero, List.setIfInBounds_toArray, List.set_cons_succ, List.set_cons_zero]
              (refine wpAnyW_take (i := 5) (v := ?_) rfl (by kernel_rfl) (by kernel_rfl) (by kernel_rfl) (by kernel_rfl) (fun _ _ _ h => h) (Or.inl ⟨by kernel_rfl, ?_⟩) (by assumption) ?_; rotate_left; focus (intro V9 hS9; obtain ⟨k0, k1, k2, k3⟩ := hS9; go_simp; (try (with_reducible rfl)); done))
              try simp only [Act.put, List.getElem_toArray, List.getElem_cons_succ, List.getElem_cons_zero, List.setIfInBounds_toArray, List.set_cons_succ, List.set_cons_zero]
              (refine wpAnyW_take (i := 6) (v := ?_) rfl (by kernel_rfl) (by kernel_rfl) (by kernel_rfl) (by kernel_rfl) (fun _ _ _ h => h) (Or.inl ⟨by kernel_rfl, ?_⟩) (by assumption) ?_; rotate_left; focus (intro V9 hS9; obtain ⟨k0, k1, k2, k3⟩ := hS9; go_simp; (try (with_reducible rfl)); done))
              try simp only [Act.put, List.getElem_toArray, List.getElem_cons_succ, List.getElem_cons_zero, List.setIfInBounds_toArray, List.set_cons_succ, List.set_cons_zero]
              (refine wpAnyW_take (i := 7) (v := ?_) rfl (by kernel_rfl) (by kernel_rfl) (by kernel_rfl) (by kernel_rfl) (fun _ _ _ h => h) (Or.inl ⟨by kernel_rfl, ?_⟩) (by assumption) ?_; rotate_left; focus (intro V9 hS9; obtain ⟨k0, k1, k2, k3⟩ := hS9; go_simp; (try (with_reducible rfl)); done))
              try simp only [Act.put, List.getElem_toArray, List.getElem_cons_succ, List.getElem_cons_zero, List.setIfInBounds_toArray, List.set_cons_succ, List.set_cons_zero]
              (refine wpAnyW_take (i := 8) (v := ?_) rfl (by kernel_rfl) (by kernel_rfl) (by kernel_rfl) (by kernel_rfl) (fun _ _ _ h => h) (Or.inl ⟨by kernel_rfl, ?_⟩) (by assumption) ?_; rotate_left; focus (intro V9 hS9; obtain ⟨k0, k1, k2, k3⟩ := hS9; go_simp; (try (with_reducible rfl)); done))
              try simp only [Act.put, List.getElem_toArray, List.getElem_cons_succ, List.getElem_cons_zero, List.setIfInBounds_toArray, List.set_cons_succ, List.set_cons_zero]
              (refine wpAnyW_take (i := 9) (v := ?_) rfl (by kernel_rfl) (by kernel_rfl) (by kernel_rfl) (by kernel_rfl) (fun _ _ _ h => h) (Or.inl ⟨by kernel_rfl, ?_⟩) (by assumption) ?_; rotate_left; focus (intro V9 hS9; obtain ⟨k0, k1, k2, k3⟩ := hS9; go_simp; (try (with_reducible rfl)); done))
              try simp only [Act.put, List.getElem_toArray, List.getElem_cons_succ, List.getElem_cons_zero, List.setIfInBounds_toArray, List.set_cons_succ, List.set_cons_zero]
              (refine wpAnyW_take (i := 10) (v := ?_) rfl (by kernel_rfl) (by kernel_rfl) (by kernel_rfl) (by kernel_rfl) (fun _ _ _ h => h) (Or.inl ⟨by kernel_rfl, ?_⟩) (by assumption) ?_; rotate_left; focus (intro V9 hS9; obtain ⟨k0, k1, k2, k3⟩ := hS9; go_simp; (try (with_reducible rfl)); done))
              try simp only [Act.put, List.getElem_toArray, List.getElem_cons_succ, List.getElem_cons_zero, List.setIfInBounds_toArray, List.set_cons_succ, List.set_cons_zero]
              (refine wpAnyW_take (i := 11) (v := ?_) rfl (by kernel_rfl) (by kernel_rfl) (by kernel_rfl) (by kernel_rfl) (fun _ _ _ h => h) (Or.inl ⟨by kernel_rfl, ?_⟩) (by assumption) ?_; rotate_left; focus (intro V9 hS9; obtain ⟨k0, k1, k2, k3⟩ := hS9; go_simp; (try (with_reducible rfl)); done))
              try simp only [Act.put, List.getElem_toArray, List.getElem_cons_succ, List.getElem_cons_zero, List.setIfInBounds_toArray, List.set_cons_succ, List.set_cons_zero]
              (refine wpAnyW_take (i := 12) (v := ?_) rfl (by kernel_rfl) (by kernel_rfl) (by kernel_rfl) (by kernel_rfl) (fun _ _ _ h => h) (Or.inl ⟨by kernel_rfl, ?_⟩) (by assumption) ?_; rotate_left; focus (intro V9 hS9; obtain ⟨k0, k1, k2, k3⟩ := hS9; go_simp; (try (with_reducible rfl)); done))
              try simp only [Act.put, List.getElem_toArray, List.getElem_cons_succ, List.getElem_cons_zero, List.setIfInBounds_toArray, List.set_cons_succ, List.set_cons_zero]
              (refine wpAnyW_take (i := 13) (v := ?_) rfl (by kernel_rfl) (by kernel_rfl) (by kernel_rfl) (by kernel_rfl) (fun _ _ _ h => h) (Or.inl ⟨by kernel_rfl, ?_⟩) (by assumption) ?_; rotate_left; focus (intro V9 hS9; obtain ⟨k0, k1, k2, k3⟩ := hS9; go_simp; (try (with_reducible rfl)); done))
              try simp only [Act.put, List.getElem_toArray, List.getElem_cons_succ, List.getElem_cons_zero, List.setIfInBounds_toArray, List.set_cons_succ, List.set_cons_zero]
              (refine wpAnyW_take (i := 14) (v := ?_) rfl (by kernel_rfl) (by kernel_rfl) (by kernel_rfl) (by kernel_rfl) (fun _ _ _ h => h) (Or.inl ⟨by kernel_rfl, ?_⟩) (by assumption) ?_; rotate_left; focus (intro V9 hS9; obtain ⟨k0, k1, k2, k3⟩ := hS9; go_simp; (try (with_reducible rfl)); done))
              try simp only [Act.put, List.getElem_toArray, List.getElem_cons_succ, List.getElem_cons_zero, List.setIfInBounds_toArray, List.set_cons_succ, List.set_cons_zero]
              (refine wpAnyW_take (i := 15) (v := ?_) rfl (by kernel_rfl) (by kernel_rfl) (by kernel_rfl) (by kernel_rfl) (fun _ _ _ h => h) (Or.inl ⟨by kernel_rfl, ?_⟩) (by assumption) ?_; rotate_left; focus (intro V9 hS9; obtain ⟨k0, k1, k2, k3⟩ := hS9; go_simp; (try (with_reducible rfl)); done))
              try simp only [Act.put, List.getElem_toArray, List.getElem_cons_succ, List.getElem_cons_zero, List.setIfInBounds_toArray, List.set_cons_succ, List.set_cons_zero]
              (refine wpAnyW_take (i := 16) (v := ?_) rfl (by kernel_rfl) (by kernel_rfl) (by kernel_rfl) (by kernel_rfl) (fun _ _ _ h => h) (Or.inl ⟨by kernel_rfl, ?_⟩) (by assumption) ?_; rotate_left; focus (intro V9 hS9; obtain ⟨k0, k1, k2, k3⟩ := hS9; go_simp; (try (with_reducible rfl)); done))
              try simp only [Act.put, List.getElem_toArray, List.getElem_cons_succ, List.getElem_cons_zero, List.setIfInBounds_toArray, List.set_cons_succ, List.set_cons_zero]
              (refine wpAnyW_take (i := 17) (v := ?_) rfl (by kernel_rfl) (by kernel_rfl) (by kernel_rfl) (by kernel_rfl) (fun _ _ _ h => h) (Or.inl ⟨by kernel_rfl, ?_⟩) (by assumption) ?_; rotate_left; focus (intro V9 hS9; obtain ⟨k0, k1, k2, k3⟩ := hS9; go_simp; (try (with_reducible rfl)); done))
              try simp only [Act.put, List.getElem_toArray, List.getElem_cons_succ, List.getElem_cons_zero, List.setIfInBounds_toArray, List.set_cons_succ, List.set_cons_zero]
              (refine wpAnyW_take (i := 18) (v := ?_) rfl (by kernel_rfl) (by kernel_rfl) (by kernel_rfl) (by kernel_rfl) (fun _ _ _ h => h) (Or.inl ⟨by kernel_rfl, ?_⟩) (by assumption) ?_; rotate_left; focus (intro V9 hS9; obtain ⟨k0, k1, k2, k3⟩ := hS9; go_simp; (try (with_reducible rfl)); done))
              try simp only [Act.put, List.getElem_toArray, List.getElem_cons_succ, List.getElem_cons_zero, List.setIfInBounds_toArray, List.set_cons_succ, List.set_cons_zero]
              (refine wpAnyW_take (i := 19) (v := ?_) rfl (by kernel_rfl) (by kernel_rfl) (by kernel_rfl) (by kernel_rfl) (fun _ _ _ h => h) (Or.inl ⟨by kernel_rfl, ?_⟩) (by assumption) ?_; rotate_left; focus (intro V9 hS9; obtain ⟨k0, k1, k2, k3⟩ := hS9; go_simp; (try (with_reducible rfl)); done))
              try simp only [Act.put, List.getElem_toArray, List.getElem_cons_succ, List.getElem_cons_zero, List.setIfInBounds_toArray, List.set_cons_succ, List.set_cons_zero]
              (refine wpAnyW_take (i := 20) (v := ?_) rfl (by kernel_rfl) (by kernel_rfl) (by kernel_rfl) (by kernel_rfl) (fun _ _ _ h => h) (Or.inl ⟨by kernel_rfl, ?_⟩) (by assumption) ?_; rotate_left; focus (intro V9 hS9; obtain ⟨k0, k1, k2, k3⟩ := hS9; go_simp; (try (with_reducible rfl)); done))
              try simp only [Act.put, List.getElem_toArray, List.getElem_cons_succ, List.getElem_cons_zero, List.setIfInBounds_toArray, List.set_cons_succ, List.set_cons_zero]
              (refine wpAnyW_take (i := 21) (v := ?_) rfl (by kernel_rfl) (by kernel_rfl) (by kernel_rfl) (by kernel_rfl) (fun _ _ _ h => h) (Or.inl ⟨by kernel_rfl, ?_⟩) (by assumption) ?_; rotate_left; focus (intro V9 hS9; obtain ⟨k0, k1, k2, k3⟩ := hS9; go_simp; (try (with_reducible rfl)); done))
              try simp only [Act.put, List.getElem_toArray, List.getElem_cons_succ, List.getElem_cons_zero, List.setIfInBounds_toArray, List.set_cons_succ, List.set_cons_zero]
              (refine wpAnyW_take (i := 22) (v := ?_) rfl (by kernel_rfl) (by kernel_rfl) (by kernel_rfl) (by kernel_rfl) (fun _ _ _ h => h) (Or.inl ⟨by kernel_rfl, ?_⟩) (by assumption) ?_; rotate_left; focus (intro V9 hS9; obtain ⟨k0, k1, k2, k3⟩ := hS9; go_simp; (try (with_reducible rfl)); done))
              try simp only [Act.put, List.getElem_toArray, List.getElem_cons_succ, List.getElem_cons_zero, List.setIfInBounds_toArray, List.set_cons_succ, List.set_cons_zero]
              (refine wpAnyW_take (i := 23) (v := ?_) rfl (by kernel_rfl) (by kernel_rfl) (by kernel_rfl) (by kernel_rfl) (fun _ _ _ h => h) (Or.inl ⟨by kernel_rfl, ?_⟩) (by assumption) ?_; rotate_left; focus (intro V9 hS9; obtain ⟨k0, k1, k2, k3⟩ := hS9; go_simp; (try (with_reducible rfl)); done))
              try simp only [Act.put, List.getElem_toArray, List.getElem_cons_succ, List.getElem_cons_zero, List.setIfInBounds_toArray, List.set_cons_succ, List.set_cons_zero]
              (refine wpAnyW_take (i := 24) (v := ?_) rfl (by kernel_rfl) (by kernel_rfl) (by kernel_rfl) (by kernel_rfl) (fun _ _ _ h => h) (Or.inl ⟨by kernel_rfl, ?_⟩) (by assumption) ?_; rotate_left; focus (intro V9 hS9; obtain ⟨k0, k1, k2, k3⟩ := hS9; go_simp; (try (with_reducible rfl)); done))
              try simp only [Act.put, List.getElem_toArray, List.getElem_cons_succ, List.getElem_cons_zero, List.setIfInBounds_toArray, List.set_cons_succ, List.set_cons_zero]
              (refine wpAnyW_take (i := 25) (v := ?_) rfl (by kernel_rfl) (by kernel_rfl) (by kernel_rfl) (by kernel_rfl) (fun _ _ _ h => h) (Or.inl ⟨by kernel_rfl, ?_⟩) (by assumption) ?_; rotate_left; focus (intro V9 hS9; obtain ⟨k0, k1, k2, k3⟩ := hS9; go_simp; (try (with_reducible rfl)); done))
              try simp only [Act.put, List.getElem_toArray, List.getElem_cons_succ, List.getElem_cons_zero, List.setIfInBounds_toArray, List.set_cons_succ, List.set_cons_zero]
              (refine wpAnyW_take (i := 26) (v := ?_) rfl (by kernel_rfl) (by kernel_rfl) (by kernel_rfl) (by kernel_rfl) (fun _ _ _ h => h) (Or.inl ⟨by kernel_rfl, ?_⟩) (by assumption) ?_; rotate_left; focus (intro V9 hS9; obtain ⟨k0, k1, k2, k3⟩ := hS9; go_simp; (try (with_reducible rfl)); done))
              try simp only [Act.put, List.getElem_toArray, List.getElem_cons_succ, List.getElem_cons_zero, List.setIfInBounds_toArray, List.set_cons_succ, List.set_cons_zero]
              (refine wpAnyW_take (i := 27) (v := ?_) rfl (by kernel_rfl) (by kernel_rfl) (by kernel_rfl) (by kernel_rfl) (fun _ _ _ h => h) (Or.inl ⟨by kernel_rfl, ?_⟩) (by assumption) ?_; rotate_left; focus (intro V9 hS9; obtain ⟨k0, k1, k2, k3⟩ := hS9; go_simp; (try (with_reducible rfl)); done))
              try simp only [Act.put, List.getElem_toArray, List.getElem_cons_succ, List.getElem_cons_zero, List.setIfInBounds_toArray, List.set_cons_succ, List.set_cons_zero]
              (refine wpAnyW_take (i := 28) (v := ?_) rfl (by kernel_rfl) (by kernel_rfl) (by kernel_rfl) (by kernel_rfl) (fun _ _ _ h => h) (Or.inl ⟨by kernel_rfl, ?_⟩) (by assumption) ?_; rotate_left; focus (intro V9 hS9; obtain ⟨k0, k1, k2, k3⟩ := hS9; go_simp; (try (with_reducible rfl)); done))
              try simp only [Act.put, List.getElem_toArray, List.getElem_cons_succ, List.getElem_cons_zero, List.setIfInBounds_toArray, List.set_cons_succ, List.set_cons_zero]
              (refine wpAnyW_take (i := 29) (v := ?_) rfl (by kernel_rfl) (by kernel_rfl) (by kernel_rfl) (by kernel_rfl) (fun _ _ _ h => h) (Or.inl ⟨by kernel_rfl, ?_⟩) (by assumption) ?_; rotate_left; focus (intro V9 hS9; obtain ⟨k0, k1, k2, k3⟩ := hS9; go_simp; (try (with_reducible rfl)); done))
              try simp only [Act.put, List.getElem_toArray, List.getElem_cons_succ, List.getElem_cons_zero, List.setIfInBounds_toArray, List.set_cons_succ, List.set_cons_zero]
              (refine wpAnyW_take (i := 30) (v := ?_) rfl (by kernel_rfl) (by kernel_rfl) (by kernel_rfl) (by kernel_rfl) (fun _ _ _ h => h) (Or.inl ⟨by kernel_rfl, ?_⟩) (by assumption) ?_; rotate_left; focus (intro V9 hS9; obtain ⟨k0, k1, k2, k3⟩ := hS9; go_simp; (try (with_reducible rfl)); done))
              try simp only [Act.put, List.getElem_toArray, List.getElem_cons_succ, List.getElem_cons_zero, List.setIfInBounds_toArray, List.set_cons_succ, List.set_cons_zero]
              (refine wpAnyW_take (i := 31) (v := ?_) rfl (by kernel_rfl) (by kernel_rfl) (by kernel_rfl) (by kernel_rfl) (fun _ _ _ h => h) (Or.inl ⟨by kernel_rfl, ?_⟩) (by assumption) ?_; rotate_left; focus (intro V9 hS9; obtain ⟨k0, k1, k2, k3⟩ := hS9; go_simp; (try (with_reducible rfl)); done))
              try simp only [Act.put, List.getElem_toArray, List.getElem_cons_succ, List.getElem_cons_zero, List.setIfInBounds_toArray, List.set_cons_succ, List.set_cons_zero]
              (refine wpAnyW_take (i := 32) (v := ?_) rfl (by kernel_rfl) (by kernel_rfl) (by kernel_rfl) (by kernel_rfl) (fun _ _ _ h => h) (Or.inl ⟨by kernel_rfl, ?_⟩) (by assumption) ?_; rotate_left; focus (intro V9 hS9; obtain ⟨k0, k1, k2, k3⟩ := hS9; go_simp; (try (with_reducible rfl)); done))
              try simp only [Act.put, List.getElem_toArray, List.getElem_cons_succ, List.getElem_cons_zero, List.setIfInBounds_toArray, List.set_cons_succ, List.set_cons_zero]
              (refine wpAnyW_take (i := 33) (v := ?_) rfl (by kernel_rfl) (by kernel_rfl) (by kernel_rfl) (by kernel_rfl) (fun _ _ _ h => h) (Or.inl ⟨by kernel_rfl, ?_⟩) (by assumption) ?_; rotate_left; focus (intro V9 hS9; obtain ⟨k0, k1, k2, k3⟩ := hS9; go_simp; (try (with_reducible rfl)); done))
              try simp only [Act.put, List.getElem_toArray, List.getElem_cons_succ, List.getElem_cons_zero, List.setIfInBounds_toArray, List.set_cons_succ, List.set_cons_zero]
              (refine wpAnyW_take (i := 34) (v := ?_) rfl (by kernel_rfl) (by kernel_rfl) (by kernel_rfl) (by kernel_rfl) (fun _ _ _ h => h) (Or.inl ⟨by kernel_rfl, ?_⟩) (by assumption) ?_; rotate_left; focus (intro V9 hS9; obtain ⟨k0, k1, k2, k3⟩ := hS9; go_simp; (try (with_reducible rfl)); done))
              try simp only [Act.put, List.getElem_toArray, List.getElem_cons_succ, List.getElem_cons_zero, List.setIfInBounds_toArray, List.set_cons_succ, List.set_cons_zero]
              (refine wpAnyW_take (i := 35) (v := ?_) rfl (by kernel_rfl) (by kernel_rfl) (by kernel_rfl) (by kernel_rfl) (fun _ _ _ h => h) (Or.inl ⟨by kernel_rfl, ?_⟩) (by assumption) ?_; rotate_left; focus (intro V9 hS9; obtain ⟨k0, k1, k2, k3⟩ := hS9; go_simp; (try (with_reducible rfl)); done))
              try simp only [Act.put, List.getElem_toArray, List.getElem_cons_succ, List.getElem_cons_zero, List.setIfInBounds_toArray, List.set_cons_succ, List.set_cons_zero]
              (refine wpAnyW_take (i := 36) (v := ?_) rfl (by kernel_rfl) (by kernel_rfl) (by kernel_rfl) (by kernel_rfl) (fun _ _ _ h => h) (Or.inl ⟨by kernel_rfl, ?_⟩) (by assumption) ?_; rotate_left; focus (intro V9 hS9; obtain ⟨k0, k1, k2, k3⟩ := hS9; go_simp; (try (with_reducible rfl)); done))
              try simp only [Act.put, List.getElem_toArray, List.getElem_cons_succ, List.getElem_cons_zero, List.setIfInBounds_toArray, List.set_cons_succ, List.set_cons_zero]
              refine wpAnyW_ready (rs := [37]) (by kernel_rfl) (by simp) ?_
              refine AllReadyW.consE rfl (by kernel_rfl) (fun K hK => ?_) AllReadyW.nil
              go_simp
              refine (unwatch_w HVD.out x.ref x.fr HRF.out HUN.out).mono ?_
              rintro e U1 ⟨rfl, hu, hf⟩
              have HU1 := Lib.hid hu
              have HG1 := Lib.hid (HFD.out.same hf)
              clear hu hf
              refine hK.out _ _ ?_
              clear hK K
              try simp only [Act.put, List.getElem_toArray, List.getElem_cons_succ, List.getElem_cons_zero, List.setIfInBounds_toArray, List.set_cons_succ, List.set_cons_zero]
              refine wpAnyW_ready (rs := [38]) (by kernel_rfl) (by simp) ?_
              refine AllReadyW.consE rfl (by kernel_rfl) (fun K hK => ?_) AllReadyW.nil
              go_simp
              refine hK.out _ _ ?_
              clear hK K
              refine wpAnyW_done (by kernel_rfl) ?_ _
              go_wp2
              go_roundw
              case rel => exact ⟨j + 1, hlt2, by go_num, HU1.out, HG1.out⟩
              case measure => simp [intOf]; omega
          · obtain rfl : j = q := by omega
            have hd2 : decide (j < j) = false := by simp
            go_wp2
            go_loopw [15] (fun i wr => ∃ n : Nat, n ≤ m ∧ i = .int .i64 (n : Int) ∧ LK W wr pm b1 b2 (4 * k) (offP who L) (onK who K) ∧ Fr (fun k => k = b1 ∨ k = b2) V4 wr) (fun i _ => m + 1 - (intOf i).toNat)
            case atStart => exact ⟨0, Nat.zero_le _, rfl, HV5.out, HF5.out⟩
            case round =>
              obtain ⟨n, hn, rfl, hv6, hf6⟩ := hrel
              have HV6 := Lib.hid hv6
              have HF6 := Lib.hid hf6
              clear hv6 hf6 HV5 HF5
              by_cases hlt3 : n < m
              · have hlt3' : decide (n < m) = true := by simpa using hlt3
                have hnz : n < zs.length := by rw [HM.out]; exact hlt3
                have hrw := own_fr9 HB4.out HF6.out (fun g hg hF => by have := HNB.out g hg; omega)
                obtain ⟨g, rfl, hqc⟩ := own_at9 (g := 0) (c := xb) hrw (by omega)
                have z0 := cellI hrw hnz HM.out
                have HZ := Lib.hid (HZO.out _ (List.getElem_mem hnz))
                generalize zs[n] = z at z0 HZ
                have q1 : (0 : Int) ≤ (n : Int) := by omega
                have q2 : (n : Int) < (m : Int) := by omega
                clear hrw
                go_wp2_with (go_at_call 18; refine (unlink_w HV6.out who z HW.out HZ.out unlink_off).mono ?_; rintro e U1 ⟨rfl, hu, hf⟩; have HU1 := Lib.hid hu; have HG1 := Lib.hid (HF6.out.same hf); clear hu hf)
                go_roundw
                case rel => exact ⟨n + 1, hlt3, by go_num, HU1.out, HG1.out⟩
                case measure => simp [intOf]; omega
              · obtain rfl : n = m := by omega
                have hd3 : decide (n < n) = false := by simp
                go_wp2_with (go_at_call 8; refine (HLV.out _).mono ?_; rintro e w5 ⟨rfl, hb⟩; have HB5 := Lib.hid hb; clear hb)
                go_ret
                exact ⟨rfl, HV6.out.old.trans (HB5.out.mono HV6.out.old.size)⟩
end Go.Proofs.Ytpfikhamokjdjaa
