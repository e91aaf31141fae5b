/- The walk of the statement LinksOrder. -/
import Derived.Test.YtpfikhamokjdjaaLOrdL
import Derived.Deep.DeepCutAuto
import Derived.Deep.CutBlock
namespace Go.Proofs.Ytpfikhamokjdjaa
open Go.RowKit
set_option linter.unusedVariables false
set_option maxRecDepth 100000 in
set_option maxHeartbeats 8000000 in
theorem linksOrder_any (A : Option Addr) (l : List ActL) (len c : Nat) (W : World) (hl : l.length = len) (hnc : len ≤ c) (hcm : c ≤ 9223372036854775807) (hr : RdLA W A l) (ho : ∀ a ∈ l, a.Ok) :
    Calls Try.prog 5 #[.slice A len c] W (Yes W) := by
  have HLV := Lib.hid live_v
  by_cases hbig : 60 < len
  · have d0 : decide ((60 : Int) < (len : Int)) = true := by simp; omega
    clear hnc hcm
    go_enter Try.func5, Try.ntmps5
    go_wp2_with (go_at_call 8; refine (HLV.out _).mono ?_; rintro e w5 ⟨rfl, hb⟩; have HB5 := Lib.hid hb; clear hb)
    go_ret
    exact ⟨rfl, HB5.out⟩
  · have d0 : decide ((60 : Int) < (len : Int)) = false := by simp; omega
    have HL := Lib.hid hl
    have HR := Lib.hid hr
    have HO := Lib.hid ho
    have HNC := Lib.hid hnc
    have HCM := Lib.hid hcm
    have hlb : len ≤ 60 := by omega
    have HNEW := Lib.hid new_v
    clear hl hr ho hnc hcm hbig
    go_enter Try.func5, Try.ntmps5
    go_wp2_with (go_at_call 9; first
      | ((with_reducible refine (HNEW.out W).mono ?_); rintro e V0 ⟨pm, b1, b2, rfl, h0⟩; have H0 := Lib.hid h0; clear h0)
      | (refine (HNEW.out _).mono ?_; rintro e V1 ⟨pn, d1, d2, rfl, h0⟩; have H1 := Lib.hid h0; clear h0))
    have HOR : Hid (OrdR W len pm b1 b2 pn d1 d2 l 0 [] [] [] [] V1) := by
      have h1 := H0.out.hi
      have h2 := H1.out.lo
      exact ⟨H0.out.keep H1.out.old, H1.out.low H0.out.old, fun p => by simp [setL], fun p => by rw [Nat.sub_zero, List.drop_of_length_le (by rw [HL.out]; exact Nat.le_refl _)]; simp [setL], fun x => by constructor <;> intro h; cases h; obtain ⟨j, _, _, h9, _⟩ := h; omega, fun x => by constructor <;> intro h; cases h; obtain ⟨j, _, h8, h9, _⟩ := h; omega, by simp, by omega⟩
    clear H0 H1
    go_loopw [5, 6, 7] (fun i _ _ wr => ∃ (k : Nat) (La Lb : PL) (Ka Kb : WL), k ≤ len ∧ i = .int .i64 (k : Int) ∧ OrdR W len pm b1 b2 pn d1 d2 l k La Lb Ka Kb wr) (fun i _ _ _ => len + 1 - (intOf i).toNat)
    case atStart => exact ⟨0, [], [], [], [], Nat.zero_le _, rfl, HOR.out⟩
    case round =>
      obtain ⟨k, La, Lb, Ka, Kb, hk, rfl, hor⟩ := hrel
      have HOR := Lib.hid hor
      clear hor
      by_cases hlt : k < len
      · have hlt' : decide (k < len) = true := by simpa using hlt
        have hkl : k < l.length := by rw [HL.out]; exact hlt
        have hkm : len - 1 - k < l.length := by rw [HL.out]; omega
        have hrw := HR.out.below HOR.out.a.old
        obtain ⟨g, off, rfl, c0, c1, c2, c3⟩ := hrw.at_ hkl
        obtain ⟨g', off', e9, y0, y1, y2, y3⟩ := hrw.at_ hkm
        obtain ⟨rfl, rfl, _⟩ := Addr.mk.inj (Option.some.inj e9)
        obtain ⟨x, hx⟩ : ∃ x, l[k] = x := ⟨_, rfl⟩
        obtain ⟨y, hy⟩ : ∃ y, l[len - 1 - k] = y := ⟨_, rfl⟩
        have hox := HO.out _ (List.getElem_mem hkl)
        have hoy := HO.out _ (List.getElem_mem hkm)
        rw [hx] at c0 c1 c2 c3 hox
        rw [hy] at y0 y1 y2 y3 hoy
        have HX := Lib.hid hx
        have HY := Lib.hid hy
        have HOX := Lib.hid hox
        have HOY := Lib.hid hoy
        have q1 : (0 : Int) ≤ (k : Int) := by omega
        have q2 : (k : Int) < (len : Int) := by omega
        have q3 : (len : Int) ≤ (c : Int) := by have := HNC.out; omega
        have e1 : (((len - 1 - k : Nat) : Nat) : Int) = (len : Int) - 1 - (k : Int) := by omega
        have q4 : (0 : Int) ≤ (len : Int) - 1 - (k : Int) := by omega
        have q5 : (len : Int) - 1 - (k : Int) < (len : Int) := by omega
        have e2 : ((len : Int) - 1 - (k : Int)).toNat = len - 1 - k := by omega
        have HE1 := Lib.hid e1
        have hb9 := World.block_lt_of_cell? wr _ c0
        clear hx hy hox hoy hrw e9 e1
        go_upto_region 9 with (fail)
        go_cut [6, 7] (fun u6 u7 wx => ∃ g6 g7, u6 = .pointer (some ⟨g6, 0, none⟩) ∧ u7 = .pointer (some ⟨g7, 0, none⟩) ∧ Blk wx g6 28 #[.int .i64 x.kind, .int .i64 x.a, .int .i64 x.b, .int .i64 x.c] ∧ Blk wx g7 28 #[.int .i64 y.kind, .int .i64 y.a, .int .i64 y.b, .int .i64 y.c] ∧ Below wr.heap.size wr wx ∧ wr.heap.size ≤ g6 ∧ wr.heap.size ≤ g7)
        case first =>
          have q6 : (k : Int) ≤ (len : Int) - 1 := by omega
          have w1 : IntKind.i64.wrap ((len : Int) - 1) = (len : Int) - 1 := IntWalk.i64_in _ (by omega)
          have w2 : IntKind.i64.wrap ((len : Int) - 1 - (k : Int)) = (len : Int) - 1 - (k : Int) := IntWalk.i64_in _ (by omega)
          go_region_held3 (fun V => (V.cell? ⟨g, off + k * 4, none⟩ = some (.int .i64 x.kind) ∧ V.cell? ⟨g, off + k * 4 + 1, none⟩ = some (.int .i64 x.a) ∧ V.cell? ⟨g, off + k * 4 + 2, none⟩ = some (.int .i64 x.b) ∧ V.cell? ⟨g, off + k * 4 + 3, none⟩ = some (.int .i64 x.c)) ∧ V.cell? ⟨g, off + (len - 1 - k) * 4, none⟩ = some (.int .i64 y.kind) ∧ V.cell? ⟨g, off + (len - 1 - k) * 4 + 1, none⟩ = some (.int .i64 y.a) ∧ V.cell? ⟨g, off + (len - 1 - k) * 4 + 2, none⟩ = some (.int .i64 y.b) ∧ V.cell? ⟨g, off + (len - 1 - k) * 4 + 3, none⟩ = some (.int .i64 y.c)) (go_keep) (fail)
          · go_wp2
            go_meet
            obtain ⟨t1, t2, t3⟩ := two_blk wr 28 #[.int .i64 x.kind, .int .i64 x.a, .int .i64 x.b, .int .i64 x.c] #[.int .i64 y.kind, .int .i64 y.a, .int .i64 y.b, .int .i64 y.c]
            exact ⟨_, _, rfl, rfl, t1, t2, t3, Nat.le_refl _, Nat.le_succ _⟩
          · go_wp2
            go_meet
            obtain ⟨t1, t2, t3⟩ := two_blk wr 28 #[.int .i64 y.kind, .int .i64 y.a, .int .i64 y.b, .int .i64 y.c] #[.int .i64 x.kind, .int .i64 x.a, .int .i64 x.b, .int .i64 x.c]
            exact ⟨_, _, rfl, rfl, t2, t1, t3, Nat.le_succ _, Nat.le_refl _⟩
        case rest =>
          obtain ⟨g6, g7, rfl, rfl, hb6, hb7, hbw, hg6, hg7⟩ := hcut
          have HOR2 := Lib.hid (HOR.out.bel hbw)
          have hhi := HOR.out.a.hi
          have hhi2 := HOR.out.b.hi
          have HG := Lib.hid (show (g6 ≠ b1 ∧ g6 ≠ b2 ∧ g6 ≠ d1 ∧ g6 ≠ d2) ∧ g7 ≠ b1 ∧ g7 ≠ b2 ∧ g7 ≠ d1 ∧ g7 ≠ d2 by omega)
          have hn : 2 * k ≤ 99000 := by omega
          clear hhi hhi2 hbw hg6 hg7 c0 c1 c2 c3 y0 y1 y2 y3 q1 q2 q3 q4 q5 e2
          have HB6 := Lib.hid hb6
          have HB7 := Lib.hid hb7
          have x1 := hb6.cell 1
          have x2 := hb6.cell 2
          clear hb6 hb7
          have HXK := Lib.hid (show i64ok (k : Int) ∧ i64ok ((len - 1 - k : Nat) : Int) by unfold i64ok; omega)
          have HC1 := Lib.hid (link_w HOR2.out.a x.a x.b HOX.out.a HOX.out.b (by omega) (show linkP La x.a x.b = ((linkP La x.a x.b).1, (linkP La x.a x.b).2) from rfl))
          go_upto_region 11 with (go_at_call 10; refine HC1.out.mono ?_; rintro e U1 ⟨rfl, hu, hf⟩)
          have HA1 := Lib.hid hu
          have HD1 := Lib.hid (HOR2.out.other_b HOR2.out.b hf)
          have HX1 := Lib.hid (hf.blk HB6.out (by have := HG.out; omega))
          have hy1 := hf.blk HB7.out (by have := HG.out; omega)
          have HY1 := Lib.hid hy1
          have z1 := hy1.cell 1
          have z2 := hy1.cell 2
          clear hu hf hy1 x1 x2 HC1
          have HC2 := Lib.hid (link_w HD1.out y.b y.a HOY.out.b HOY.out.a (by omega) (show linkP Lb y.b y.a = ((linkP Lb y.b y.a).1, (linkP Lb y.b y.a).2) from rfl))
          go_upto_region 12 with (go_at_call 10; refine HC2.out.mono ?_; rintro e U2 ⟨rfl, hu, hf⟩)
          have HD2 := Lib.hid hu
          have HA2 := Lib.hid (HOR2.out.other_a HA1.out hf)
          have hx2 := hf.blk HX1.out (by have := HG.out; omega)
          have HX2 := Lib.hid hx2
          have HY2 := Lib.hid (hf.blk HY1.out (by have := HG.out; omega))
          have x1 := hx2.cell 1
          have x2 := hx2.cell 2
          clear hu hf hx2 z1 z2 HC2
          have HC3 := Lib.hid (watch_w HA2.out ⟨(k : Int), x.a, x.b⟩ ⟨HXK.out.1, HOX.out.a, HOX.out.b⟩ (by omega) (HOR2.out.freshA x.a x.b))
          simp only at HC3
          go_upto_region 13 with (go_at_call 11; refine HC3.out.mono ?_; rintro e U3 ⟨rfl, hu, hf⟩)
          have HA3 := Lib.hid hu
          have HD3 := Lib.hid (HOR2.out.other_b HD2.out hf)
          have hy3 := hf.blk HY2.out (by have := HG.out; omega)
          have z1 := hy3.cell 1
          have z2 := hy3.cell 2
          clear hu hf hy3 x1 x2 HC3
          have HC4 := Lib.hid (watch_w HD3.out ⟨((len - 1 - k : Nat) : Int), y.a, y.b⟩ ⟨HXK.out.2, HOY.out.a, HOY.out.b⟩ (by omega) (HOR2.out.freshB hlt y.a y.b))
          simp only at HC4
          rw [HE1.out] at HC4
          have q4 : (0 : Int) ≤ (len : Int) - 1 - (k : Int) := by omega
          have q5 : (k : Int) ≤ (len : Int) - 1 := by omega
          go_wp2_with (go_at_call 11; refine HC4.out.mono ?_; rintro e U4 ⟨rfl, hu, hf⟩; have HD4 := Lib.hid hu; have HA4 := Lib.hid (HOR2.out.other_a HA3.out hf); clear hu hf)
          have HNX := Lib.hid (HOR2.out.step HL.out hlt HX.out HY.out (HA4.out.mono (by omega)) (by have h9 := HD4.out.mono (show 2 * k + 1 + 1 ≤ 2 * k + 2 by omega); rw [← HE1.out] at h9; exact h9))
          go_roundw
          case rel => exact ⟨k + 1, _, _, _, _, hlt, by go_num, HNX.out⟩
          case measure => simp [intOf]; omega
      · obtain rfl : k = len := by omega
        have hd1 : decide (k < k) = false := by simp
        obtain ⟨hps, hws, hwl⟩ := HOR.out.end_ HL.out
        have HWL := Lib.hid hwl
        have hbd := HOR.out.na
        have HPA := Lib.hid (pairs_w HOR.out.a (by omega))
        have HPB := Lib.hid (fun V (h : Below wr.heap.size wr V) => pairs_w (HOR.out.b.keep h) (by omega))
        have HWA := Lib.hid (fun V (h : Below wr.heap.size wr V) => watches_w (HOR.out.a.keep h) (by omega))
        have HWB := Lib.hid (fun V (h : Below wr.heap.size wr V) => watches_w (HOR.out.b.keep h) (by omega))
        rw [← hps] at HPB
        rw [← hws] at HWB
        obtain ⟨ps, hpl⟩ : ∃ ps, psP La = ps := ⟨_, rfl⟩
        obtain ⟨ws, hwq⟩ : ∃ ws, wsP Ka = ws := ⟨_, rfl⟩
        have HPO : Hid (∀ p ∈ ps, p.1 < p.2) := fun p hp => by
          rw [← hpl] at hp
          exact (HOR.out.a.lk.ok p ((psP_perm La).mem_iff.1 hp)).1
        have hpb : ps.length ≤ 60 := by rw [← hpl, (psP_perm La).length_eq]; omega
        rw [hpl] at HPA HPB
        rw [hwq] at HWA HWB HWL
        clear hps hws hwl hbd hpl hwq
        go_upto_region 15 with (go_at_call 19; first
          | ((with_reducible refine HPA.out.mono ?_); rintro e U1 ⟨va, rfl, hr1, hb1⟩; have HR1 := Lib.hid hr1; have HB1 := Lib.hid hb1; clear hr1 hb1)
          | ((with_reducible refine (HPB.out _ HB1.out).mono ?_); rintro e U2 ⟨vb, rfl, hr2, hb2⟩; have HR2 := Lib.hid hr2; have HB2 := Lib.hid hb2; clear hr2 hb2))
        have HB12 := Lib.hid (HB1.out.trans (HB2.out.mono HB1.out.size))
        have HRA := Lib.hid (own_bel HR1.out HB2.out)
        obtain ⟨Aa, m, xa, rfl, hm⟩ : ∃ B m x, va = .slice B m x ∧ ps.length = m := by
          obtain ⟨B, x, h9⟩ := own_slice9 HRA.out
          exact ⟨B, _, x, h9, rfl⟩
        rw [hm] at HRA HR2 hpb
        obtain ⟨Ab, xb, rfl⟩ := own_slice9 HR2.out
        have HM := Lib.hid hm
        have HWC : Hid (∀ V, Below wr.heap.size wr V → Calls Try.prog 14 #[.pointer (some ⟨pm, 0, none⟩)] V fun e w' => ∃ B x, e = .returned (.slice B k x) ∧ Below V.heap.size V w') := fun V h => (HWA.out V h).mono fun e w' h9 => by
          obtain ⟨v, rfl, h1, h2⟩ := h9
          rw [HWL.out] at h1
          obtain ⟨B, x, rfl⟩ := own_slice9 h1
          exact ⟨B, x, rfl, h2⟩
        clear hm HR1 HB1 HB2 HPA HPB
        go_upto_region 18 with (first
          | (go_at_call 14; first
            | ((with_reducible refine (HWA.out U2 HB12.out).mono ?_); rintro e U3 ⟨vc, rfl, hr3, hb3⟩; have HR3 := Lib.hid hr3; have HS3 := Lib.hid hb3; have HB3 := Lib.hid (HB12.out.trans (hb3.mono HB12.out.size)); clear hr3 hb3)
            | ((with_reducible refine (HWB.out _ HB3.out).mono ?_); rintro e U4 ⟨vd, rfl, hr4, hb4⟩; have HR4 := Lib.hid hr4; have HS4 := Lib.hid hb4; have HB4 := Lib.hid (HB3.out.trans (hb4.mono HB3.out.size)); have HEQ := Lib.hid (rwatches_v ⟨_, own_bel HR3.out hb4⟩ ⟨_, hr4⟩ (by rw [HWL.out]; omega) (by rw [HWL.out]; omega)); rw [show decide (ws = ws) = true from decide_eq_true rfl] at HEQ; clear hr4 hb4)
            | ((with_reducible refine (HWC.out _ HB5.out).mono ?_); rintro e U6 ⟨B6, x6, rfl, hb6⟩; have HB6 := Lib.hid (HB5.out.trans (hb6.mono HB5.out.size)); have HRA6 := Lib.hid (own_bel HRA5.out hb6); have HRB6 := Lib.hid (own_bel HRB5.out hb6); clear hb6))
          | (go_at_call 20; refine HEQ.out.mono ?_; rintro e U5 ⟨rfl, hb5⟩; have HB5 := Lib.hid (HB4.out.trans (hb5.mono HB4.out.size)); have HRA5 := Lib.hid (own_bel (own_bel (own_bel HRA.out HS3.out) HS4.out) hb5); have HRB5 := Lib.hid (own_bel (own_bel (own_bel HR2.out HS3.out) HS4.out) hb5); clear hb5))
        have HBW := Lib.hid (HOR.out.a.old.trans (HB6.out.mono HOR.out.a.old.size))
        clear HOR HRA5 HRB5 HB5 HB4 HB3 HB12 HRA HR2 HR3 HR4 HS3 HS4 HEQ HWA HWB HWC HB6
        go_loopw [10] (fun i wr => ∃ j : Nat, j ≤ m ∧ i = .int .i64 (j : Int) ∧ Below U6.heap.size U6 wr) (fun i _ => m + 1 - (intOf i).toNat)
        case atStart => exact ⟨0, Nat.zero_le _, rfl, Below.refl _ _⟩
        case round =>
          obtain ⟨j, hj, rfl, hbj⟩ := hrel
          have HBJ := Lib.hid hbj
          clear hbj
          by_cases hlt : j < m
          · have hlt' : decide (j < m) = true := by simpa using hlt
            have hjp : j < ps.length := by rw [HM.out]; exact hlt
            have hra := own_bel HRA6.out HBJ.out
            have hrb := own_bel HRB6.out HBJ.out
            obtain ⟨ga, rfl, hca⟩ := own_at9 (g := 0) (c := xa) hra (by omega)
            obtain ⟨gb, rfl, hcb⟩ := own_at9 (g := 0) (c := xb) hrb (by omega)
            obtain ⟨z0, z1⟩ := cellP9 hra hjp HM.out
            obtain ⟨y0, y1⟩ := cellP9 hrb hjp HM.out
            have hp := HPO.out _ (List.getElem_mem hjp)
            have hne := neqP_self ps[j]
            generalize ps[j] = p at z0 z1 y0 y1 hp hne
            obtain ⟨pa, pb⟩ := p
            simp only at z0 z1 y0 y1 hp hne
            have d2 : decide (pb ≤ pa) = false := by simp; omega
            have q1 : (0 : Int) ≤ (j : Int) := by omega
            have q2 : (j : Int) < (m : Int) := by omega
            clear hra hrb hp
            go_wp2
            go_quiet (fail)
            clear z0 z1 y0 y1 hne d2
            go_wp2
            go_roundw
            case rel => exact ⟨j + 1, hlt, by go_num, below_drewN HBJ.out _⟩
            case measure => simp [intOf]; omega
          · obtain rfl : j = m := by omega
            have hd3 : decide (j < j) = false := by simp
            go_wp2_with (go_at_call 8; refine (HLV.out _).mono ?_; rintro e w5 ⟨rfl, hb⟩; have HB5 := Lib.hid (below_step HBJ.out hb); clear hb)
            go_ret
            exact ⟨rfl, HBW.out.trans (HB5.out.mono HBW.out.size)⟩
end Go.Proofs.Ytpfikhamokjdjaa
