/- The walk of the statement JournalPlays: the play. -/
import Derived.Test.YtcnhfbckaacalaaJPC
namespace Go.Proofs.Ytcnhfbckaacalaa
open Go.RowKit
set_option linter.unusedVariables false
attribute [local go_sem ↓] Go.wp_at_zero Go.wp_at_succ

set_option maxRecDepth 100000 in
set_option maxHeartbeats 20000000 in
theorem jplays_good (fr ln ep0 : Int) (A : Option Addr) (l : List ActV) (n c : Nat) (B : Option Addr) (ns : List Int) (m cB : Nat) (w : World) (hl : l.length = n) (hn : n ≤ 9223372036854775807) (hr : RdA w A l) (ho : ∀ a ∈ l, a.Ok) (hh : hugeB l = false) (hln : ns.length = m) (hm : 3 ≤ m) (hm2 : m ≤ 9223372036854775807) (hrn : Rdi w B ns) :
    Calls Try.prog 8 #[.agg #[.int .i64 fr, .int .i64 ln], .int .i64 ep0, .slice A n c, .slice B m cB] w (Yes w) := by
  have HH : Hid (∀ V, Below w.heap.size w V → Calls Try.prog 22 #[.slice A n c] V fun e w' => e = .returned (.bool false) ∧ V = w') := fun V hV => by
    have h9 := huge_any A l n c V hl hn (hr.below hV) ho
    rw [hh] at h9
    exact h9
  obtain ⟨hn120, hp9⟩ := huge_not hl hh
  have HL := Lib.hid hl
  have HO := Lib.hid ho
  have HP9 := Lib.hid hp9
  obtain ⟨pa, hpa⟩ : ∃ pa, w.heap.size = pa := ⟨_, rfl⟩
  have hB : Blk (w.alloc (.cells #[.int .i64 fr, .int .i64 ln] 34)) pa 34 #[.int .i64 fr, .int .i64 ln] := by rw [← hpa]; exact Blk.new _ _ _
  have hb0 := below_alloc w (.cells #[.int .i64 fr, .int .i64 ln] 34)
  obtain ⟨bn, off, rfl, _, n0⟩ := hrn.at_ (k := 0) (by omega)
  obtain ⟨bn', off', e1, _, n1⟩ := hrn.at_ (k := 1) (by omega)
  injection e1 with e1
  injection e1 with e1 e2
  subst e1
  subst e2
  obtain ⟨bn', off', e1, _, n2⟩ := hrn.at_ (k := 2) (by omega)
  injection e1 with e1
  injection e1 with e1 e2
  subst e1
  subst e2
  obtain ⟨x0, hx0⟩ : ∃ x, ns[0]'(by omega) = x := ⟨_, rfl⟩
  obtain ⟨x1, hx1⟩ : ∃ x, ns[1]'(by omega) = x := ⟨_, rfl⟩
  obtain ⟨x2, hx2⟩ : ∃ x, ns[2]'(by omega) = x := ⟨_, rfl⟩
  rw [hx0] at n0
  rw [hx1] at n1
  rw [hx2] at n2
  rw [Nat.add_zero] at n0
  clear hx0 hx1 hx2 hrn hln
  obtain ⟨nu, hnu⟩ : ∃ nu, numI x0 x1 x2 = nu := ⟨_, rfl⟩
  have HN1 : Hid (∀ V, Calls Try.prog 26 #[.int .i64 x0, .int .i64 x1, .int .i64 x2] V fun r w' => r = .returned (.int .u64 nu) ∧ V = w') := fun V => by rw [← hnu]; exact p_number x0 x1 x2 V
  have HN2 : Hid (∀ V, Calls Try.prog 27 #[.int .i64 x0, .int .i64 x1, .int .i64 x2] V fun r w' => r = .returned (.int .u64 nu) ∧ V = w') := fun V => by rw [← hnu]; exact q_number x0 x1 x2 V
  have d3 : decide (m < 3) = false := by simp; omega
  have d3' : decide ((m : Int) < 3) = false := by simp; omega
  have m0 : (0 : Int) < (m : Int) := by omega
  have m1 : (1 : Int) < (m : Int) := by omega
  have m2 : (2 : Int) < (m : Int) := by omega
  have n0' := (hb0.cell (World.block_lt_of_cell? w _ n0)).trans n0
  have n1' := (hb0.cell (World.block_lt_of_cell? w _ n1)).trans n1
  have n2' := (hb0.cell (World.block_lt_of_cell? w _ n2)).trans n2
  have HS0 := Lib.hid (sim_fresh (nb := 12) (size := 64) (by omega) (by omega) (by omega) (by omega))
  have HB := Lib.hid (And.intro hB hb0)
  obtain ⟨V0, hV0⟩ : ∃ V0, w.alloc (.cells #[.int .i64 fr, .int .i64 ln] 34) = V0 := ⟨_, rfl⟩
  rw [hV0] at HB n0' n1' n2'
  have HV0 := Lib.hid hV0
  have HRA := Lib.hid hr
  clear hl ho hh hp9 hB hb0 n0 n1 n2 hV0 hnu hr
  go_enter Try.func8, Try.ntmps8
  go_upto_region 1 with (fail)
  rw [HV0.out]
  go_upto_region 3 with (go_at_call 22; refine (HH.out _ HB.out.2).mono ?_; rintro e w' ⟨rfl, rfl⟩)
  go_quiet ((first
    | (go_at_call 26; exact Calls.quiet_of_same ((HN1.out _).mono fun e w' ⟨he, hw⟩ => ⟨he, hw.symm⟩))
    | (go_at_call 27; exact Calls.quiet_of_same ((HN2.out _).mono fun e w' ⟨he, hw⟩ => ⟨he, hw.symm⟩))))
  go_upto_region 5 with (fail)
  refine wp_world (fun V => Blk V pa 34 #[.int .i64 fr, .int .i64 ln] ∧ Below w.heap.size w V) ⟨HB.out.1.keep (below_drewN (Below.refl _ _) _), below_drewN HB.out.2 _⟩ ?_
  clear n0' n1' n2' HB HN1 HN2 HV0 m0 m1 m2 d3 d3'
  rintro V1 ⟨hB1, hb1⟩
  have HNW := Lib.hid (new_ok 12 64 V1 (by omega) (by omega) (by omega) (by omega))
  go_upto_region 6 with (go_at_call 10; refine HNW.out.mono ?_; rintro e V2 ⟨pd, p0, rfl, hD2, hb2, hF2⟩)
  have HNR := Lib.hid (rnew_ok 12 64 V2 (by omega) (by omega) (by omega) (by omega))
  go_upto_region 9 with (first
    | (go_at_call 28; refine HNR.out.mono ?_; rintro e V3 ⟨pr, q0, rfl, hR3, hb3, hF3⟩)
    | (go_at_call 11; refine (num_any _ _).mono ?_; rintro e w' ⟨rfl, rfl⟩))
  have hd0 : Done w pa #[.int .i64 fr, .int .i64 ln] none 0 pd 0 pr (DS.fresh 12 64) (RS.fresh 12 64) 0 (.pointer none) p0 q0 V3 := by
    have l1 := hB1.lt
    have l2 := hb1.size
    refine ⟨⟨⟨hD2.keep hb3, HS0.out.dok⟩, hR3, (hB1.keep hb2).keep hb3, below_step (below_step hb1 hb2) hb3, fun k hk hk2 => ?_, fun k hk => ?_, fun k hk => ?_, by omega⟩, HS0.out, rfl, rfl, Nat.le_refl _⟩
    · have h1 := hD2.lt k hk
      have h2 := hF3 k hk2
      omega
    · have := hF2 k hk; exact ⟨by omega, by omega⟩
    · have := hF3 k hk; have := hb2.size; exact ⟨by omega, by omega⟩
  obtain ⟨D0, hD0⟩ : ∃ D0, DS.fresh 12 64 = D0 := ⟨_, rfl⟩
  obtain ⟨R0, hR0⟩ : ∃ R0, RS.fresh 12 64 = R0 := ⟨_, rfl⟩
  rw [hD0, hR0] at hd0
  have HD0 := Lib.hid hd0
  clear hB1 hb1 hD2 hb2 hF2 hR3 hb3 hF3 HNW HNR hD0 hR0 hd0
  have a0 : V3.cell? ⟨pa, 0, none⟩ = some (.int .i64 fr) := HD0.out.two.area.cell 0
  have a1 : V3.cell? ⟨pa, 1, none⟩ = some (.int .i64 ln) := HD0.out.two.area.cell 1
  have HO1 := Lib.hid (p_open (SP.disk HD0.out.two.x) HD0.out.sim.dok fr ln ep0)
  go_upto_region 10 with (go_at_call 12; refine HO1.out.mono ?_; rintro g V4 ⟨pj, v, A1, c1, rfl, k1, k2, k3, k4, k5⟩)
  have a2 : V4.cell? ⟨pa, 0, none⟩ = some (.int .i64 fr) := (HD0.out.two.area.keep k2).cell 0
  have a3 : V4.cell? ⟨pa, 1, none⟩ = some (.int .i64 ln) := (HD0.out.two.area.keep k2).cell 1
  have HO2 := Lib.hid (q_open (RefAt.keep (SR.ref HD0.out.two.y) k2) HD0.out.sim fr ln ep0)
  go_upto_region 11 with (go_at_call 29; refine HO2.out.mono ?_; rintro g V5 ⟨pk, A2, c2, rfl, y1, y2, y3, y4⟩)
  have hd1 := done_open HD0.out k1 k2 k3 y1 y2 y3
  have k6 := k4.below y2
  obtain ⟨rs, hrs⟩ : ∃ rs, (jopenP D0 fr ln ep0).2.2 = rs := ⟨_, rfl⟩
  obtain ⟨ec, hec⟩ : ∃ ec, (jopenP D0 fr ln ep0).1 = ec := ⟨_, rfl⟩
  obtain ⟨o, hoj⟩ : ∃ o, oj D0 fr ln ep0 = o := ⟨_, rfl⟩
  rw [hrs] at k5 k6 y4
  rw [hrs, hec]
  simp only [SP.ptr, SR.ptr, SP.ad, SR.ad]
  rw [hoj] at hd1 ⊢
  obtain ⟨rn, hrn⟩ : ∃ rn, rs.length = rn := ⟨_, rfl⟩
  rw [hrn] at k5 ⊢
  have HSM := Lib.hid (same_yes A1 A2 rn c1 c2 rs V5 hrn k6 y4 k5)
  have HD1 := Lib.hid hd1
  obtain ⟨P, hP⟩ : ∃ P : Option Addr, (o.map fun _ => (⟨pj, 0, none⟩ : Addr)) = P := ⟨_, rfl⟩
  obtain ⟨K, hK⟩ : ∃ K : Option Addr, (o.map fun _ => (⟨pk, 0, none⟩ : Addr)) = K := ⟨_, rfl⟩
  have HPK := Lib.hid (And.intro hP hK)
  obtain ⟨bn, hb1, hb2⟩ : ∃ b : Bool, P.isNone = b ∧ K.isNone = b := ⟨o.isNone, by rw [← hP]; cases o <;> rfl, by rw [← hK]; cases o <;> rfl⟩
  have hb3 : (!bn == bn) = false := by cases bn <;> rfl
  rw [hP, hK]
  clear hd1 k1 k2 k3 k4 k5 k6 y1 y2 y3 y4 a0 a1 a2 a3 hrs hec hoj hrn hP hK HD0 HO1 HO2
  go_upto_region 14 with (first
    | (go_at_call 11; refine (num_any _ _).mono ?_; rintro e w' ⟨rfl, rfl⟩)
    | (go_at_call 21; refine HSM.out.mono ?_; rintro e w' ⟨rfl, q9, rfl⟩))
  have hd2 := HD1.out.keep (below_drewN (Below.refl V5.heap.size V5) q9)
  clear HSM HD1 hb1 hb2 hb3
  go_loopw [1, 8, 13, 16, 19] (fun v1 v8 v13 v16 v19 wr => ∃ (i : Nat) (ep : Int) (o : Option JV) (pj : Nat) (v : Value) (p : Pl) (D : DS) (pk : Nat) (q : RPl) (R : RS) (P K : Option Addr), i ≤ n ∧ v1 = .int .i64 ep ∧ v8 = .bool false ∧ v13 = .pointer P ∧ v16 = .pointer K ∧ v19 = .int .i64 (i : Int) ∧ Hid ((o.map fun _ => (⟨pj, 0, none⟩ : Addr)) = P ∧ (o.map fun _ => (⟨pk, 0, none⟩ : Addr)) = K) ∧ Done w pa #[.int .i64 fr, .int .i64 ln] o pj pd pk pr D R (600 * i) v p q wr) (fun _ _ _ _ v19 _ => n - (intOf v19).toNat)
  case atStart => exact ⟨0, ep0, o, pj, v, p0, D0, pk, q0, R0, P, K, Nat.zero_le _, rfl, rfl, rfl, rfl, rfl, HPK, hd2⟩
  case round =>
    clear HPK hd2
    obtain ⟨i, ep, o, pj, v, p, D, pk, q, R, P, K, hi, rfl, rfl, rfl, rfl, rfl, HPK, hd⟩ := hrel
    by_cases hlt : i < n
    · have hjl : i < l.length := by rw [HL.out]; exact hlt
      have hok := HO.out _ (List.getElem_mem hjl)
      have hp20 := HP9.out _ (List.getElem_mem hjl)
      obtain ⟨b, off, rfl, Bp, cBp, c0, c1, c2, hrB, hcB⟩ := HRA.out.at_ hjl
      generalize (l[i]'hjl) = a at *
      obtain ⟨ak, an, ap⟩ := a
      simp only at c0 c1 c2 hrB hcB hp20
      have hp2 := hok.p2
      have hn1 := hok.n1
      have hn2 := hok.n2
      simp only at hp2 hn1 hn2
      have hdi : decide (i < n) = true := by simp; omega
      have hbw := hd.two.bel
      have e0 := (hbw.cell (World.block_lt_of_cell? w _ c0)).trans c0
      have e1 := (hbw.cell (World.block_lt_of_cell? w _ c1)).trans c1
      have e2 := (hbw.cell (World.block_lt_of_cell? w _ c2)).trans c2
      clear c0 c1 c2 hbw
      go_upto_region 17 with (fail)
      have HA0 : Hid ((Done w pa #[.int .i64 fr, .int .i64 ln] o pj pd pk pr D R (600 * i) v p q (wr.alloc (.cells #[.int .i64 ak, .int .i64 an, .slice Bp ap.length cBp] 49)) ∧ Blk (wr.alloc (.cells #[.int .i64 ak, .int .i64 an, .slice Bp ap.length cBp] 49)) wr.heap.size 49 #[.int .i64 ak, .int .i64 an, .slice Bp ap.length cBp]) ∧ Out pa ⟨o, pj, v, pd, p, D⟩ ⟨o, pk, pr, q, R⟩ wr.heap.size ∧ w.heap.size ≤ wr.heap.size) :=
        ⟨⟨hd.keep (below_alloc _ _), Blk.new _ _ _⟩, hd.two.out (Nat.le_refl _), hd.two.bel.size⟩
      generalize wr.heap.size = ga at *
      refine wp_world (fun W => (Done w pa #[.int .i64 fr, .int .i64 ln] o pj pd pk pr D R (600 * i) v p q W ∧ Blk W ga 49 #[.int .i64 ak, .int .i64 an, .slice Bp ap.length cBp]) ∧ Out pa ⟨o, pj, v, pd, p, D⟩ ⟨o, pk, pr, q, R⟩ ga ∧ w.heap.size ≤ ga) HA0.out ?_
      clear HA0 e0 e1 e2 hd
      rintro V3 ⟨⟨hd3, hG3⟩, hO3, hga⟩
      have g0 : V3.cell? ⟨ga, 0, none⟩ = some (.int .i64 ak) := hG3.cell 0
      have g1 : V3.cell? ⟨ga, 1, none⟩ = some (.int .i64 an) := hG3.cell 1
      have g2 : V3.cell? ⟨ga, 2, none⟩ = some (.slice Bp ap.length cBp) := hG3.cell 2
      have hgl : ga < V3.heap.size := hG3.lt
      have HRB := Lib.hid hrB
      clear hrB hok
      cases o with
      | none =>
        have hP : P = none := HPK.out.1.symm
        have hK : K = none := HPK.out.2.symm
        subst hP
        subst hK
        by_cases k2 : ak = 2
        · as_aux_lemma =>
            subst k2
            clear g0 g2
            have g0 : V3.cell? ⟨ga, 0, none⟩ = some (.int .i64 2) := hG3.cell 0
            have HD3 := Lib.hid hd3
            have HG := Lib.hid (And.intro hG3 hO3)
            have HC := Lib.hid (cut_any (SP.disk hd3.two.x) an)
            clear hd3 hG3 hO3
            go_upto_region 31 with (go_at_call 23; refine HC.out.mono ?_; rintro e V5 ⟨rfl, hA5⟩)
            obtain ⟨hR5, hX5⟩ := mid_disk HD3.out hA5
            have g3 : V5.cell? ⟨ga, 1, none⟩ = some (.int .i64 an) := (hX5 HG.out.1 HG.out.2).cell 1
            have HC2 := Lib.hid (rcut_any hR5 an)
            have HA5 := Lib.hid hA5
            clear hA5 hX5 hR5 g0 g1
            go_upto_region 46 with (go_at_call 32; refine HC2.out.mono ?_; rintro e V6 ⟨rfl, hA6⟩)
            have hs6 := sim_cut HD3.out.sim an hn2
            have HD9 := Lib.hid (done_disk (m' := 600 * (i + 1)) HD3.out HA5.out hA6 hs6.1 (cut_same D an).1 (cut_same D an).2 (by rw [hs6.2]; have := HD3.out.lg; omega))
            clear hA6 hs6 HA5 HD3 HC HC2
            have HAL : Hid (Calls Try.prog 37 #[.pointer (some ⟨pd, 0, none⟩), .pointer (some ⟨pr, 0, none⟩), .pointer none, .pointer none] V6 (Yes V6)) := by have h9 := HD9.out; exact alike_two h9.two h9.sim rfl rfl
            go_wp2_with (go_at_call 37; refine HAL.out.mono ?_; rintro e w9 ⟨rfl, hb9⟩)
            go_roundw
            case rel => exact ⟨i + 1, ep, none, _, _, _, _, _, _, _, none, none, by omega, rfl, rfl, rfl, rfl, by go_num, HPK, HD9.out.keep hb9⟩
            case measure => simp [intOf]; omega
        · by_cases k3 : ak = 3
          · as_aux_lemma =>
              subst k3
              clear g0 g2
              have g0 : V3.cell? ⟨ga, 0, none⟩ = some (.int .i64 3) := hG3.cell 0
              have HD3 := Lib.hid hd3
              have HC := Lib.hid (restore_any (SP.disk hd3.two.x))
              clear hd3 hG3 hO3
              go_upto_region 38 with (go_at_call 24; refine HC.out.mono ?_; rintro e V5 ⟨rfl, p5, hA5⟩)
              have hR5 := (mid_disk HD3.out (D' := D.back) hA5).1
              have HC2 := Lib.hid (rrestore_any hR5)
              have HA5 : Hid (Acts V3 pd p D.back V5 p5) := hA5
              clear hA5 hR5 g0 g1
              go_upto_region 39 with (go_at_call 35; refine HC2.out.mono ?_; rintro e V6 ⟨rfl, hA6⟩)
              have HD0 := Lib.hid (done_disk (m' := 600 * (i + 1)) HD3.out HA5.out hA6 (sim_back HD3.out.sim) rfl rfl (by show D.log.length ≤ _; have := HD3.out.lg; omega))
              clear hA6 HA5 HD3 HC HC2
              clear HPK
              have a0 : V6.cell? ⟨pa, 0, none⟩ = some (.int .i64 fr) := HD0.out.two.area.cell 0
              have a1 : V6.cell? ⟨pa, 1, none⟩ = some (.int .i64 ln) := HD0.out.two.area.cell 1
              have HO1 := Lib.hid (p_open (SP.disk HD0.out.two.x) HD0.out.sim.dok fr ln ep)
              go_upto_region 42 with (go_at_call 12; refine HO1.out.mono ?_; rintro g V7 ⟨pj, v, A1, c1, rfl, k1, k2, k3, k4, k5⟩)
              have a2 : V7.cell? ⟨pa, 0, none⟩ = some (.int .i64 fr) := (HD0.out.two.area.keep k2).cell 0
              have a3 : V7.cell? ⟨pa, 1, none⟩ = some (.int .i64 ln) := (HD0.out.two.area.keep k2).cell 1
              have HO2 := Lib.hid (q_open (RefAt.keep (SR.ref HD0.out.two.y) k2) HD0.out.sim fr ln ep)
              go_upto_region 43 with (go_at_call 29; refine HO2.out.mono ?_; rintro g V8 ⟨pk, A2, c2, rfl, y1, y2, y3, y4⟩)
              have hd1 := done_open HD0.out k1 k2 k3 y1 y2 y3
              have k6 := k4.below y2
              obtain ⟨rs, hrs⟩ : ∃ rs, (jopenP D.back fr ln ep).2.2 = rs := ⟨_, rfl⟩
              obtain ⟨ec, hec⟩ : ∃ ec, (jopenP D.back fr ln ep).1 = ec := ⟨_, rfl⟩
              obtain ⟨o, hoj⟩ : ∃ o, oj D.back fr ln ep = o := ⟨_, rfl⟩
              rw [hrs] at k5 k6 y4
              rw [hrs, hec]
              simp only [SP.ptr, SR.ptr, SP.ad, SR.ad]
              rw [hoj] at hd1 ⊢
              obtain ⟨rn, hrn⟩ : ∃ rn, rs.length = rn := ⟨_, rfl⟩
              rw [hrn] at k5 ⊢
              have HSM := Lib.hid (same_yes A1 A2 rn c1 c2 rs V8 hrn k6 y4 k5)
              have HD1 := Lib.hid hd1
              obtain ⟨P, hP⟩ : ∃ P : Option Addr, (o.map fun _ => (⟨pj, 0, none⟩ : Addr)) = P := ⟨_, rfl⟩
              obtain ⟨K, hK⟩ : ∃ K : Option Addr, (o.map fun _ => (⟨pk, 0, none⟩ : Addr)) = K := ⟨_, rfl⟩
              have HPK := Lib.hid (And.intro hP hK)
              obtain ⟨bn, hb1, hb2⟩ : ∃ b : Bool, P.isNone = b ∧ K.isNone = b := ⟨o.isNone, by rw [← hP]; cases o <;> rfl, by rw [← hK]; cases o <;> rfl⟩
              have hb3 : (!bn == bn) = false := by cases bn <;> rfl
              rw [hP, hK]
              clear hd1 k1 k2 k3 k4 k5 k6 y1 y2 y3 y4 a0 a1 a2 a3 hrs hec hoj hrn hP hK HD0 HO1 HO2
              go_upto_region 46 with (first
                | (go_at_call 11; refine (num_any _ _).mono ?_; rintro e w' ⟨rfl, rfl⟩)
                | (go_at_call 21; refine HSM.out.mono ?_; rintro e w' ⟨rfl, q9, rfl⟩))
              have HD9 := Lib.hid (HD1.out.keep (below_drewN (Below.refl V8.heap.size V8) q9))
              clear HSM HD1 hb1 hb2 hb3
              have HAL : Hid (Calls Try.prog 37 #[.pointer (some ⟨pd, 0, none⟩), .pointer (some ⟨pr, 0, none⟩), .pointer P, .pointer K] (V8.drewN q9) (Yes (V8.drewN q9))) := by have h9 := HD9.out; exact alike_two h9.two h9.sim HPK.out.1 HPK.out.2
              go_wp2_with (go_at_call 37; refine HAL.out.mono ?_; rintro e w9 ⟨rfl, hb9⟩)
              go_roundw
              case rel => exact ⟨i + 1, ep, o, _, _, _, _, _, _, _, P, K, by omega, rfl, rfl, rfl, rfl, by go_num, HPK, HD9.out.keep hb9⟩
              case measure => simp [intOf]; omega
          · have q2 : (ak != 2) = true := by simp [k2]
            have q3 : (ak != 3) = true := by simp [k3]
            clear k2 k3
            have HD3 := Lib.hid hd3
            clear hd3 hG3 hO3
            go_wp2
            go_roundw
            case rel => exact ⟨i + 1, ep, none, pj, v, p, D, pk, q, R, none, none, by omega, rfl, rfl, rfl, rfl, by go_num, HPK, HD3.out.more (by omega)⟩
            case measure => simp [intOf]; omega
      | some J =>
        have hP : P = some ⟨pj, 0, none⟩ := HPK.out.1.symm
        have hK : K = some ⟨pk, 0, none⟩ := HPK.out.2.symm
        subst hP
        subst hK
        by_cases k0 : ak = 0
        · as_aux_lemma =>
            subst k0
            clear g0 g1
            have g0 : V3.cell? ⟨ga, 0, none⟩ = some (.int .i64 0) := hG3.cell 0
            have hm1 : 600 * i ≤ 100000 := by omega
            have hrB3 := HRB.out.below hd3.two.bel
            have H0 : Hid ((V3.alloc (.cells #[] 5)).ownsRow V3.heap.size 5 1 (.slice (some ⟨V3.heap.size, 0, none⟩) 0 0) 0 [] ∧ Cs (V3.alloc (.cells #[] 5)) Bp (ap.map bv)) :=
              ⟨⟨rfl, .inr ⟨V3.heap.size, 0, #[], rfl, Nat.le_refl _, heap_alloc_new _ _, Nat.le_refl _, Nat.zero_le _, rfl, rfl⟩⟩, (hrB3.below (below_alloc _ _)).cs⟩
            have hone := bvs_one ap
            have hlm : (ap.map bv).length = ap.length * 1 := by simp
            have hmx : 0 + ap.length ≤ maxLen := by simp only [maxLen]; omega
            have hbx : (0 + ap.length) * 1 ≤ 140737488355328 := by omega
            have hbs : V3.heap.size ≤ (V3.alloc (.cells #[] 5)).heap.size := by simp
            have HLM := Lib.hid hlm
            have HD3 := Lib.hid hd3
            have HG := Lib.hid (And.intro hG3 hO3)
            clear hlm hrB3 hd3 hG3 hO3
            go_upto_region 22 with (at_builtin; (with_reducible refine wpList_app bytesT rfl (.tmp 127) (.tmp 129) rfl V3.heap.size (.slice (some ⟨V3.heap.size, 0, none⟩) 0 0) 0 [] rfl H0.out.1 Bp ap.length cBp (ap.map bv) rfl HLM.out H0.out.2 hone hmx hbx hbs ?_); intro v' w4 hown4 hgr4 hat4; simp only [Nat.zero_add, List.nil_append] at hown4; obtain ⟨Pb, cPb, hv4, hr4, _, hcP⟩ := own_rd hown4; subst hv4; have hb4 : Below V3.heap.size V3 w4 := (below_alloc V3 _).grown hgr4 (by simp) (fun k hk => by injection hk with hk; exact Nat.le_of_eq hk); have k2 : w4.cell? ⟨ga, 2, none⟩ = some (.slice Bp ap.length cBp) := (HG.out.1.keep hb4).cell 2)
            have hdd := HD3.out.keep (hb4.drew)
            have hRow4 := (Row.of_own (w0 := w) hown4 (fun k hk => HD3.out.two.out hk) HD3.out.two.bel.size).below (Below.refl _ _).drew
            have hG4 := HG.out.1.keep (hb4.drew)
            have HSx := Lib.hid (fun W (hG : Blk W ga 49 #[.int .i64 0, .int .i64 an, .slice Bp ap.length cBp]) (hb : Below w.heap.size w W) => show W.cell? ⟨ga, 2, none⟩ = some (.slice Bp ap.length cBp) ∧ (convert 23 9 (.slice Bp ap.length cBp)).run Try.prog W = .ok (.string ⟨ap.toArray⟩) W from
              ⟨hG.cell 2, run_str (P := Try.prog) Try.underlying23 Try.underlying5 Try.underlying9 W Bp ap.length cBp ap rfl (HRB.out.below hb)⟩)
            obtain ⟨s2, s3⟩ := HSx.out w4.drew hG4 hdd.two.bel
            obtain ⟨c588, c12⟩ := cap588 hdd.jok hdd.sz hdd.nb
            obtain ⟨f1, f2, f3⟩ := app_keeps J D ap 588 c588
            obtain ⟨⟨xe, J', D'⟩, hx⟩ : ∃ x, J.app D ap = x := ⟨_, rfl⟩
            have HF := Lib.hid (p_app hdd ap Pb ap.length cPb rfl hp20 (hr4.below (Below.refl _ _).drew) hm1)
            have HQ : Hid (∀ W, (⟨some J, pk, pr, q, R⟩ : SR).At W → Calls Try.prog 30 #[.pointer (some ⟨pk, 0, none⟩), .string ⟨ap.toArray⟩] W (QJ J pk pr q R W (J.app D ap))) := fun W hW => q_app hW hdd.sim hdd.jok ap hp20 (Nat.le_trans hdd.lg hm1) c12
            rw [hx] at HF HQ f1 f2 f3
            have HFK := Lib.hid (And.intro f1 (And.intro f2 f3))
            have HDD := Lib.hid hdd
            have HG4 := Lib.hid (And.intro hG4 HG.out.2)
            have HROW := Lib.hid hRow4
            clear hdd hx f1 f2 f3 hG4 HG HD3 hRow4 H0 hone hmx hbx hbs HLM hgr4 hat4 hown4 hr4 hb4 k2 c588 c12 g0 g2
            go_region_held3 (fun W => W.cell? ⟨ga, 2, none⟩ = some (.slice Bp ap.length cBp) ∧ (convert 23 9 (.slice Bp ap.length cBp)).run Try.prog W = .ok (.string ⟨ap.toArray⟩) W) (first | exact ⟨s2, s3⟩ | exact HSx.out _ hG5 hB5.bel | exact HSx.out _ hG6 hB6.bel) ((first
              | (go_at_call 17
                 refine HF.out.mono ?_
                 rintro e V5 ⟨rfl, v5, p5, hX5⟩
                 have hB5 := HDD.out.two.xact hX5
                 obtain ⟨hG5, hO5⟩ := HDD.out.two.xblk HG4.out.1 HG4.out.2 hX5)
              | (go_at_call 11
                 refine (num_any _ _).mono ?_
                 rintro e w' ⟨rfl, rfl⟩)
              | (go_at_call 30
                 refine (HQ.out _ hB5.y).mono ?_
                 rintro e V6 ⟨rfl, R6, q6, hY6, hS6⟩
                 have hB6 := hB5.yact hY6
                 obtain ⟨hG6, hO6⟩ := hB5.yblk hG5 hO5 hY6)))
            have hd6 := done_both (x := (xe, J', D')) (m' := 600 * (i + 1)) HDD.out hX5 hY6 hS6 HFK.out.1 HFK.out.2.1 (by have := HFK.out.2.2; have := HDD.out.lg; simp only at *; omega)
            have hRow6 := (HROW.out.xact hX5).yact hY6
            clear hX5 hY6 hS6 HDD HROW HF HQ HFK HSx HG4 hG5 hO5 hG6 hO6 hB5 hB6 s2 s3
            go_upto_region 24 with (fail)
            obtain ⟨w7, rfl⟩ : ∃ w7 : World, w7 = wr := ⟨_, rfl⟩
            go_loopw [23] (fun iv wx => ∃ t : Nat, t ≤ ap.length ∧ iv = .int .i64 t ∧ Done w pa #[.int .i64 fr, .int .i64 ln] (some J') pj pd pk pr D' R6 (600 * (i + 1)) v5 p5 q6 wx ∧ Row w pa ⟨some J', pj, v5, pd, p5, D'⟩ ⟨some J', pk, pr, q6, R6⟩ (.slice Pb ap.length cPb) ap.length wx) (fun iv _ => ap.length - (intOf iv).toNat)
            case atStart => exact ⟨0, Nat.zero_le _, rfl, hd6, hRow6⟩
            case round =>
              obtain ⟨t, ht, rfl, hd8, hRow8⟩ := hrel
              clear hd6 hRow6
              by_cases htl : t < ap.length
              · obtain ⟨g', cg, z, hvg, hcl, hfz, hnx⟩ := hRow8.at_ hd8.two htl
                obtain ⟨e1, _, e3⟩ := Value.slice.inj hvg
                subst e1
                subst e3
                have HNX := Lib.hid hnx
                have HD8 := Lib.hid hd8
                clear hnx hd8 hRow8
                have hd5 : decide (t < ap.length) = true := by simp; omega
                go_wp2
                go_roundw
                case rel => exact ⟨t + 1, by omega, by go_num, ⟨(HNX.out _).2, HD8.out.sim, HD8.out.sz, HD8.out.nb, HD8.out.lg⟩, (HNX.out _).1⟩
                case measure => simp [intOf]; omega
              · have hd5 : decide (t < ap.length) = false := by simp; omega
                have HD9 := Lib.hid hd8
                clear hd8 hRow8
                go_upto_region 46 with (fail)
                have HAL : Hid (Calls Try.prog 37 #[.pointer (some ⟨pd, 0, none⟩), .pointer (some ⟨pr, 0, none⟩), .pointer (some ⟨pj, 0, none⟩), .pointer (some ⟨pk, 0, none⟩)] wr (Yes wr)) := by have h9 := HD9.out; exact alike_two h9.two h9.sim rfl rfl
                go_wp2_with (go_at_call 37; refine HAL.out.mono ?_; rintro e w9 ⟨rfl, hb9⟩)
                go_roundw
                case rel => exact ⟨i + 1, ep, some J', _, _, _, _, _, _, _, (some ⟨pj, 0, none⟩), (some ⟨pk, 0, none⟩), by omega, rfl, rfl, rfl, rfl, by go_num, HPK, HD9.out.keep hb9⟩
                case measure => simp [intOf]; omega
        · have q0 : (ak == 0) = false := by simp [k0]
          by_cases k1 : ak = 1
          · as_aux_lemma =>
              subst k1
              clear g0 g1 g2
              have g0 : V3.cell? ⟨ga, 0, none⟩ = some (.int .i64 1) := hG3.cell 0
              have hm1 : 600 * i ≤ 100000 := by omega
              obtain ⟨f1, f2, f3⟩ := flush_keeps J D
              obtain ⟨⟨xe, J', D'⟩, hx⟩ : ∃ x, J.flush D = x := ⟨_, rfl⟩
              have HF := Lib.hid (p_flush hd3 hm1)
              have HQ : Hid (∀ W, (⟨some J, pk, pr, q, R⟩ : SR).At W → Calls Try.prog 31 #[.pointer (some ⟨pk, 0, none⟩)] W (QJ J pk pr q R W (J.flush D))) := fun W hW => q_flush hW hd3.sim hd3.jok (Nat.le_trans hd3.lg hm1)
              rw [hx] at HF HQ f1 f2 f3
              have HD3 := Lib.hid hd3
              have HFK := Lib.hid (And.intro f1 (And.intro f2 f3))
              clear hd3 hG3 hO3 hx f1 f2 f3
              go_upto_region 46 with (first
                | (go_at_call 19; refine HF.out.mono ?_; rintro e V5 ⟨rfl, v5, p5, hX5⟩; have hy5 := (HD3.out.two.xact hX5).y)
                | (go_at_call 11; refine (num_any _ _).mono ?_; rintro e w' ⟨rfl, rfl⟩)
                | (go_at_call 31; refine (HQ.out _ hy5).mono ?_; rintro e V6 ⟨rfl, R6, q6, hY6, hS6⟩))
              have HD9 := Lib.hid (done_both (x := (xe, J', D')) (m' := 600 * (i + 1)) HD3.out hX5 hY6 hS6 HFK.out.1 HFK.out.2.1 (by have := HFK.out.2.2; have := HD3.out.lg; simp only at *; omega))
              clear hX5 hY6 hS6 hy5 HD3 HF HQ HFK
              have HAL : Hid (Calls Try.prog 37 #[.pointer (some ⟨pd, 0, none⟩), .pointer (some ⟨pr, 0, none⟩), .pointer (some ⟨pj, 0, none⟩), .pointer (some ⟨pk, 0, none⟩)] V6 (Yes V6)) := by have h9 := HD9.out; exact alike_two h9.two h9.sim rfl rfl
              go_wp2_with (go_at_call 37; refine HAL.out.mono ?_; rintro e w9 ⟨rfl, hb9⟩)
              go_roundw
              case rel => exact ⟨i + 1, ep, some J', _, _, _, _, _, _, _, (some ⟨pj, 0, none⟩), (some ⟨pk, 0, none⟩), by omega, rfl, rfl, rfl, rfl, by go_num, HPK, HD9.out.keep hb9⟩
              case measure => simp [intOf]; omega
          · have q1 : (ak == 1) = false := by simp [k1]
            by_cases k2 : ak = 2
            · as_aux_lemma =>
                subst k2
                clear g0 g2
                have g0 : V3.cell? ⟨ga, 0, none⟩ = some (.int .i64 2) := hG3.cell 0
                have HD3 := Lib.hid hd3
                have HG := Lib.hid (And.intro hG3 hO3)
                have HC := Lib.hid (cut_any (SP.disk hd3.two.x) an)
                clear hd3 hG3 hO3
                go_upto_region 31 with (go_at_call 23; refine HC.out.mono ?_; rintro e V5 ⟨rfl, hA5⟩)
                obtain ⟨hR5, hX5⟩ := mid_disk HD3.out hA5
                have g3 : V5.cell? ⟨ga, 1, none⟩ = some (.int .i64 an) := (hX5 HG.out.1 HG.out.2).cell 1
                have HC2 := Lib.hid (rcut_any hR5 an)
                have HA5 := Lib.hid hA5
                clear hA5 hX5 hR5 g0 g1
                go_upto_region 46 with (go_at_call 32; refine HC2.out.mono ?_; rintro e V6 ⟨rfl, hA6⟩)
                have hs6 := sim_cut HD3.out.sim an hn2
                have HD9 := Lib.hid (done_disk (m' := 600 * (i + 1)) HD3.out HA5.out hA6 hs6.1 (cut_same D an).1 (cut_same D an).2 (by rw [hs6.2]; have := HD3.out.lg; omega))
                clear hA6 hs6 HA5 HD3 HC HC2
                have HAL : Hid (Calls Try.prog 37 #[.pointer (some ⟨pd, 0, none⟩), .pointer (some ⟨pr, 0, none⟩), .pointer (some ⟨pj, 0, none⟩), .pointer (some ⟨pk, 0, none⟩)] V6 (Yes V6)) := by have h9 := HD9.out; exact alike_two h9.two h9.sim rfl rfl
                go_wp2_with (go_at_call 37; refine HAL.out.mono ?_; rintro e w9 ⟨rfl, hb9⟩)
                go_roundw
                case rel => exact ⟨i + 1, ep, some J, _, _, _, _, _, _, _, (some ⟨pj, 0, none⟩), (some ⟨pk, 0, none⟩), by omega, rfl, rfl, rfl, rfl, by go_num, HPK, HD9.out.keep hb9⟩
                case measure => simp [intOf]; omega
            · have q2 : (ak == 2) = false := by simp [k2]
              by_cases k3 : ak = 3
              · as_aux_lemma =>
                  subst k3
                  clear g0 g2
                  have g0 : V3.cell? ⟨ga, 0, none⟩ = some (.int .i64 3) := hG3.cell 0
                  have HD3 := Lib.hid hd3
                  have HC := Lib.hid (restore_any (SP.disk hd3.two.x))
                  clear hd3 hG3 hO3
                  go_upto_region 38 with (go_at_call 24; refine HC.out.mono ?_; rintro e V5 ⟨rfl, p5, hA5⟩)
                  have hR5 := (mid_disk HD3.out (D' := D.back) hA5).1
                  have HC2 := Lib.hid (rrestore_any hR5)
                  have HA5 : Hid (Acts V3 pd p D.back V5 p5) := hA5
                  clear hA5 hR5 g0 g1
                  go_upto_region 39 with (go_at_call 35; refine HC2.out.mono ?_; rintro e V6 ⟨rfl, hA6⟩)
                  have HD0 := Lib.hid (done_disk (m' := 600 * (i + 1)) HD3.out HA5.out hA6 (sim_back HD3.out.sim) rfl rfl (by show D.log.length ≤ _; have := HD3.out.lg; omega))
                  clear hA6 HA5 HD3 HC HC2
                  have z3 : V6.cell? ⟨pk, 3, none⟩ = some (.int .i64 (J.epoch : Int)) := by
                    have hz : RZ pk pr _ J _ V6 := HD0.out.two.y
                    exact hz.obj.cell 3
                  obtain ⟨ej, hej⟩ : ∃ ej : Int, (J.epoch : Int) = ej := ⟨_, rfl⟩
                  rw [hej] at z3
                  clear hej
                  clear HPK
                  have a0 : V6.cell? ⟨pa, 0, none⟩ = some (.int .i64 fr) := HD0.out.two.area.cell 0
                  have a1 : V6.cell? ⟨pa, 1, none⟩ = some (.int .i64 ln) := HD0.out.two.area.cell 1
                  have HO1 := Lib.hid (p_open (SP.disk HD0.out.two.x) HD0.out.sim.dok fr ln ej)
                  go_upto_region 42 with (go_at_call 12; refine HO1.out.mono ?_; rintro g V7 ⟨pj, v, A1, c1, rfl, k1, k2, k3, k4, k5⟩)
                  have a2 : V7.cell? ⟨pa, 0, none⟩ = some (.int .i64 fr) := (HD0.out.two.area.keep k2).cell 0
                  have a3 : V7.cell? ⟨pa, 1, none⟩ = some (.int .i64 ln) := (HD0.out.two.area.keep k2).cell 1
                  have HO2 := Lib.hid (q_open (RefAt.keep (SR.ref HD0.out.two.y) k2) HD0.out.sim fr ln ej)
                  go_upto_region 43 with (go_at_call 29; refine HO2.out.mono ?_; rintro g V8 ⟨pk, A2, c2, rfl, y1, y2, y3, y4⟩)
                  have hd1 := done_open HD0.out k1 k2 k3 y1 y2 y3
                  have k6 := k4.below y2
                  obtain ⟨rs, hrs⟩ : ∃ rs, (jopenP D.back fr ln ej).2.2 = rs := ⟨_, rfl⟩
                  obtain ⟨ec, hec⟩ : ∃ ec, (jopenP D.back fr ln ej).1 = ec := ⟨_, rfl⟩
                  obtain ⟨o, hoj⟩ : ∃ o, oj D.back fr ln ej = o := ⟨_, rfl⟩
                  rw [hrs] at k5 k6 y4
                  rw [hrs, hec]
                  simp only [SP.ptr, SR.ptr, SP.ad, SR.ad]
                  rw [hoj] at hd1 ⊢
                  obtain ⟨rn, hrn⟩ : ∃ rn, rs.length = rn := ⟨_, rfl⟩
                  rw [hrn] at k5 ⊢
                  have HSM := Lib.hid (same_yes A1 A2 rn c1 c2 rs V8 hrn k6 y4 k5)
                  have HD1 := Lib.hid hd1
                  obtain ⟨P, hP⟩ : ∃ P : Option Addr, (o.map fun _ => (⟨pj, 0, none⟩ : Addr)) = P := ⟨_, rfl⟩
                  obtain ⟨K, hK⟩ : ∃ K : Option Addr, (o.map fun _ => (⟨pk, 0, none⟩ : Addr)) = K := ⟨_, rfl⟩
                  have HPK := Lib.hid (And.intro hP hK)
                  obtain ⟨bn, hb1, hb2⟩ : ∃ b : Bool, P.isNone = b ∧ K.isNone = b := ⟨o.isNone, by rw [← hP]; cases o <;> rfl, by rw [← hK]; cases o <;> rfl⟩
                  have hb3 : (!bn == bn) = false := by cases bn <;> rfl
                  rw [hP, hK]
                  clear hd1 k1 k2 k3 k4 k5 k6 y1 y2 y3 y4 a0 a1 a2 a3 hrs hec hoj hrn hP hK HD0 HO1 HO2
                  go_upto_region 46 with (first
                    | (go_at_call 11; refine (num_any _ _).mono ?_; rintro e w' ⟨rfl, rfl⟩)
                    | (go_at_call 21; refine HSM.out.mono ?_; rintro e w' ⟨rfl, q9, rfl⟩))
                  have HD9 := Lib.hid (HD1.out.keep (below_drewN (Below.refl V8.heap.size V8) q9))
                  clear HSM HD1 hb1 hb2 hb3
                  have HAL : Hid (Calls Try.prog 37 #[.pointer (some ⟨pd, 0, none⟩), .pointer (some ⟨pr, 0, none⟩), .pointer P, .pointer K] (V8.drewN q9) (Yes (V8.drewN q9))) := by have h9 := HD9.out; exact alike_two h9.two h9.sim HPK.out.1 HPK.out.2
                  go_wp2_with (go_at_call 37; refine HAL.out.mono ?_; rintro e w9 ⟨rfl, hb9⟩)
                  go_roundw
                  case rel => exact ⟨i + 1, ej, o, _, _, _, _, _, _, _, P, K, by omega, rfl, rfl, rfl, rfl, by go_num, HPK, HD9.out.keep hb9⟩
                  case measure => simp [intOf]; omega
              · have q3 : (ak == 3) = false := by simp [k3]
                by_cases k5 : ak = 5
                · by_cases k6 : 0 ≤ an ∧ an < ln
                  · as_aux_lemma =>
                      subst k5
                      obtain ⟨k6, k7⟩ := k6
                      have d1 : decide (0 ≤ an) = true := by simpa using k6
                      have d2 : decide (an < ln) = true := by simpa using k7
                      have c0 : V3.cell? ⟨pa, 0, none⟩ = some (.int .i64 fr) := hd3.two.area.cell 0
                      have c1 : V3.cell? ⟨pa, 1, none⟩ = some (.int .i64 ln) := hd3.two.area.cell 1
                      clear g0
                      have g0 : V3.cell? ⟨ga, 0, none⟩ = some (.int .i64 5) := hG3.cell 0
                      obtain ⟨zn, hzn⟩ : ∃ zn, IntKind.i64.wrap (fr + an) = zn := ⟨_, rfl⟩
                      have HD3 := Lib.hid hd3
                      have HG := Lib.hid (And.intro hG3 hO3)
                      have hrB3 := HRB.out.below hd3.two.bel
                      have HW := Lib.hid (write_any (n := zn) (c := 1) (A := some ⟨V3.heap.size, 0, none⟩) (ls := [ap]) (l := ap) (m := 1) (w := V3.alloc (.cells #[.slice Bp ap.length cBp] 23)) ((SP.disk hd3.two.x).keep (below_alloc V3 _)) hd3.sim.dok (by simp) rfl (by omega) (by omega) (rdl_one (t := 23) (c := cBp) hrB3 rfl))
                      clear hd3 hG3 hO3 hrB3
                      go_upto_region 36 with (go_at_call 33; refine HW.out.mono ?_; rintro e V5 ⟨rfl, p5, hA5⟩)
                      have hA5' : Acts V3 pd p (D.write zn ap).2 V5 p5 := ⟨hA5.disk, (Fr.of_below (below_alloc V3 _) _).same hA5.fr, fun k hk => by
                        rcases hA5.grown k hk with h9 | h9
                        · exact .inl h9
                        · exact .inr (Nat.le_trans (below_alloc V3 _).size h9)⟩
                      obtain ⟨hR5, hX5⟩ := mid_disk HD3.out hA5'
                      have g3 : V5.cell? ⟨ga, 1, none⟩ = some (.int .i64 an) := (hX5 HG.out.1 HG.out.2).cell 1
                      have g4 : V5.cell? ⟨ga, 2, none⟩ = some (.slice Bp ap.length cBp) := (hX5 HG.out.1 HG.out.2).cell 2
                      have hb5 : Below w.heap.size w V5 := HD3.out.two.bel.trans (hA5'.fr.below HD3.out.two.bel.size (fun k hk => (HD3.out.two.lx k (SP.sub ⟨some J, pj, v, pd, p, D⟩ hk)).1))
                      have c3 : V5.cell? ⟨pa, 0, none⟩ = some (.int .i64 fr) := (hA5'.fr.blk HD3.out.two.area (fun e => (HD3.out.two.lx pa (SP.sub ⟨some J, pj, v, pd, p, D⟩ e)).2 rfl)).cell 0
                      have hst := run_str (P := Try.prog) Try.underlying23 Try.underlying5 Try.underlying9 V5 Bp ap.length cBp ap rfl (HRB.out.below hb5)
                      have HC2 := Lib.hid (rwrite_any (n := zn) (p := ap) hR5 HD3.out.sim.rok hp2)
                      have HA5 := Lib.hid hA5'
                      clear hA5 hA5' hX5 hR5 g0 g1 g2 c0 c1 HW hb5
                      go_upto_region 39 with (go_at_call 34; refine HC2.out.mono ?_; rintro e V6 ⟨rfl, q6, hA6⟩)
                      obtain ⟨s1, s2, s3⟩ := sim_write HD3.out.sim zn ap (by have := HD3.out.lg; omega)
                      have HD0 := Lib.hid (done_disk (m' := 600 * (i + 1)) HD3.out HA5.out hA6 s2 (write_same D zn ap).1 (write_same D zn ap).2 (by have := HD3.out.lg; omega))
                      clear hA6 HA5 HD3 HC2 s1 s2 s3 g3 g4 c3 hst hzn
                      have z3 : V6.cell? ⟨pk, 3, none⟩ = some (.int .i64 (J.epoch : Int)) := by
                        have hz : RZ pk pr _ J _ V6 := HD0.out.two.y
                        exact hz.obj.cell 3
                      obtain ⟨ej, hej⟩ : ∃ ej : Int, (J.epoch : Int) = ej := ⟨_, rfl⟩
                      rw [hej] at z3
                      clear hej
                      clear HPK
                      have a0 : V6.cell? ⟨pa, 0, none⟩ = some (.int .i64 fr) := HD0.out.two.area.cell 0
                      have a1 : V6.cell? ⟨pa, 1, none⟩ = some (.int .i64 ln) := HD0.out.two.area.cell 1
                      have HO1 := Lib.hid (p_open (SP.disk HD0.out.two.x) HD0.out.sim.dok fr ln ej)
                      go_upto_region 42 with (go_at_call 12; refine HO1.out.mono ?_; rintro g V7 ⟨pj, v, A1, c1, rfl, k1, k2, k3, k4, k5⟩)
                      have a2 : V7.cell? ⟨pa, 0, none⟩ = some (.int .i64 fr) := (HD0.out.two.area.keep k2).cell 0
                      have a3 : V7.cell? ⟨pa, 1, none⟩ = some (.int .i64 ln) := (HD0.out.two.area.keep k2).cell 1
                      have HO2 := Lib.hid (q_open (RefAt.keep (SR.ref HD0.out.two.y) k2) HD0.out.sim fr ln ej)
                      go_upto_region 43 with (go_at_call 29; refine HO2.out.mono ?_; rintro g V8 ⟨pk, A2, c2, rfl, y1, y2, y3, y4⟩)
                      have hd1 := done_open HD0.out k1 k2 k3 y1 y2 y3
                      have k6 := k4.below y2
                      obtain ⟨rs, hrs⟩ : ∃ rs, (jopenP (D.write zn ap).2 fr ln ej).2.2 = rs := ⟨_, rfl⟩
                      obtain ⟨ec, hec⟩ : ∃ ec, (jopenP (D.write zn ap).2 fr ln ej).1 = ec := ⟨_, rfl⟩
                      obtain ⟨o, hoj⟩ : ∃ o, oj (D.write zn ap).2 fr ln ej = o := ⟨_, rfl⟩
                      rw [hrs] at k5 k6 y4
                      rw [hrs, hec]
                      simp only [SP.ptr, SR.ptr, SP.ad, SR.ad]
                      rw [hoj] at hd1 ⊢
                      obtain ⟨rn, hrn⟩ : ∃ rn, rs.length = rn := ⟨_, rfl⟩
                      rw [hrn] at k5 ⊢
                      have HSM := Lib.hid (same_yes A1 A2 rn c1 c2 rs V8 hrn k6 y4 k5)
                      have HD1 := Lib.hid hd1
                      obtain ⟨P, hP⟩ : ∃ P : Option Addr, (o.map fun _ => (⟨pj, 0, none⟩ : Addr)) = P := ⟨_, rfl⟩
                      obtain ⟨K, hK⟩ : ∃ K : Option Addr, (o.map fun _ => (⟨pk, 0, none⟩ : Addr)) = K := ⟨_, rfl⟩
                      have HPK := Lib.hid (And.intro hP hK)
                      obtain ⟨bn, hb1, hb2⟩ : ∃ b : Bool, P.isNone = b ∧ K.isNone = b := ⟨o.isNone, by rw [← hP]; cases o <;> rfl, by rw [← hK]; cases o <;> rfl⟩
                      have hb3 : (!bn == bn) = false := by cases bn <;> rfl
                      rw [hP, hK]
                      clear hd1 k1 k2 k3 k4 k5 k6 y1 y2 y3 y4 a0 a1 a2 a3 hrs hec hoj hrn hP hK HD0 HO1 HO2
                      go_upto_region 46 with (first
                        | (go_at_call 11; refine (num_any _ _).mono ?_; rintro e w' ⟨rfl, rfl⟩)
                        | (go_at_call 21; refine HSM.out.mono ?_; rintro e w' ⟨rfl, q9, rfl⟩))
                      have HD9 := Lib.hid (HD1.out.keep (below_drewN (Below.refl V8.heap.size V8) q9))
                      clear HSM HD1 hb1 hb2 hb3
                      have HAL : Hid (Calls Try.prog 37 #[.pointer (some ⟨pd, 0, none⟩), .pointer (some ⟨pr, 0, none⟩), .pointer P, .pointer K] (V8.drewN q9) (Yes (V8.drewN q9))) := by have h9 := HD9.out; exact alike_two h9.two h9.sim HPK.out.1 HPK.out.2
                      go_wp2_with (go_at_call 37; refine HAL.out.mono ?_; rintro e w9 ⟨rfl, hb9⟩)
                      go_roundw
                      case rel => exact ⟨i + 1, ej, o, _, _, _, _, _, _, _, P, K, by omega, rfl, rfl, rfl, rfl, by go_num, HPK, HD9.out.keep hb9⟩
                      case measure => simp [intOf]; omega
                  · as_aux_lemma =>
                      subst k5
                      have k7 : an < 0 ∨ (0 ≤ an ∧ ¬ an < ln) := by omega
                      clear k6
                      have c1 : V3.cell? ⟨pa, 1, none⟩ = some (.int .i64 ln) := hd3.two.area.cell 1
                      clear g0 g2
                      have g0 : V3.cell? ⟨ga, 0, none⟩ = some (.int .i64 5) := hG3.cell 0
                      have HD3 := Lib.hid hd3
                      have HC := Lib.hid (restore_any (SP.disk hd3.two.x))
                      clear hd3 hG3 hO3
                      rcases k7 with k7 | ⟨k7, k8⟩
                      case' inl =>
                        have d1 : decide (0 ≤ an) = false := by simp; omega
                      case' inr =>
                        have d1 : decide (0 ≤ an) = true := by simpa using k7
                        have d2 : decide (an < ln) = false := by simp; omega
                      all_goals
                        go_upto_region 38 with (go_at_call 24; refine HC.out.mono ?_; rintro e V5 ⟨rfl, p5, hA5⟩)
                        have hR5 := (mid_disk HD3.out (D' := D.back) hA5).1
                        have HC2 := Lib.hid (rrestore_any hR5)
                        have HA5 : Hid (Acts V3 pd p D.back V5 p5) := hA5
                        clear hA5 hR5 g0 g1
                        go_upto_region 39 with (go_at_call 35; refine HC2.out.mono ?_; rintro e V6 ⟨rfl, hA6⟩)
                        have HD0 := Lib.hid (done_disk (m' := 600 * (i + 1)) HD3.out HA5.out hA6 (sim_back HD3.out.sim) rfl rfl (by show D.log.length ≤ _; have := HD3.out.lg; omega))
                        clear hA6 HA5 HD3 HC HC2
                        have z3 : V6.cell? ⟨pk, 3, none⟩ = some (.int .i64 (J.epoch : Int)) := by
                          have hz : RZ pk pr _ J _ V6 := HD0.out.two.y
                          exact hz.obj.cell 3
                        obtain ⟨ej, hej⟩ : ∃ ej : Int, (J.epoch : Int) = ej := ⟨_, rfl⟩
                        rw [hej] at z3
                        clear hej
                        clear HPK
                        have a0 : V6.cell? ⟨pa, 0, none⟩ = some (.int .i64 fr) := HD0.out.two.area.cell 0
                        have a1 : V6.cell? ⟨pa, 1, none⟩ = some (.int .i64 ln) := HD0.out.two.area.cell 1
                        have HO1 := Lib.hid (p_open (SP.disk HD0.out.two.x) HD0.out.sim.dok fr ln ej)
                        go_upto_region 42 with (go_at_call 12; refine HO1.out.mono ?_; rintro g V7 ⟨pj, v, A1, c1, rfl, k1, k2, k3, k4, k5⟩)
                        have a2 : V7.cell? ⟨pa, 0, none⟩ = some (.int .i64 fr) := (HD0.out.two.area.keep k2).cell 0
                        have a3 : V7.cell? ⟨pa, 1, none⟩ = some (.int .i64 ln) := (HD0.out.two.area.keep k2).cell 1
                        have HO2 := Lib.hid (q_open (RefAt.keep (SR.ref HD0.out.two.y) k2) HD0.out.sim fr ln ej)
                        go_upto_region 43 with (go_at_call 29; refine HO2.out.mono ?_; rintro g V8 ⟨pk, A2, c2, rfl, y1, y2, y3, y4⟩)
                        have hd1 := done_open HD0.out k1 k2 k3 y1 y2 y3
                        have k6 := k4.below y2
                        obtain ⟨rs, hrs⟩ : ∃ rs, (jopenP D.back fr ln ej).2.2 = rs := ⟨_, rfl⟩
                        obtain ⟨ec, hec⟩ : ∃ ec, (jopenP D.back fr ln ej).1 = ec := ⟨_, rfl⟩
                        obtain ⟨o, hoj⟩ : ∃ o, oj D.back fr ln ej = o := ⟨_, rfl⟩
                        rw [hrs] at k5 k6 y4
                        rw [hrs, hec]
                        simp only [SP.ptr, SR.ptr, SP.ad, SR.ad]
                        rw [hoj] at hd1 ⊢
                        obtain ⟨rn, hrn⟩ : ∃ rn, rs.length = rn := ⟨_, rfl⟩
                        rw [hrn] at k5 ⊢
                        have HSM := Lib.hid (same_yes A1 A2 rn c1 c2 rs V8 hrn k6 y4 k5)
                        have HD1 := Lib.hid hd1
                        obtain ⟨P, hP⟩ : ∃ P : Option Addr, (o.map fun _ => (⟨pj, 0, none⟩ : Addr)) = P := ⟨_, rfl⟩
                        obtain ⟨K, hK⟩ : ∃ K : Option Addr, (o.map fun _ => (⟨pk, 0, none⟩ : Addr)) = K := ⟨_, rfl⟩
                        have HPK := Lib.hid (And.intro hP hK)
                        obtain ⟨bn, hb1, hb2⟩ : ∃ b : Bool, P.isNone = b ∧ K.isNone = b := ⟨o.isNone, by rw [← hP]; cases o <;> rfl, by rw [← hK]; cases o <;> rfl⟩
                        have hb3 : (!bn == bn) = false := by cases bn <;> rfl
                        rw [hP, hK]
                        clear hd1 k1 k2 k3 k4 k5 k6 y1 y2 y3 y4 a0 a1 a2 a3 hrs hec hoj hrn hP hK HD0 HO1 HO2
                        go_upto_region 46 with (first
                          | (go_at_call 11; refine (num_any _ _).mono ?_; rintro e w' ⟨rfl, rfl⟩)
                          | (go_at_call 21; refine HSM.out.mono ?_; rintro e w' ⟨rfl, q9, rfl⟩))
                        have HD9 := Lib.hid (HD1.out.keep (below_drewN (Below.refl V8.heap.size V8) q9))
                        clear HSM HD1 hb1 hb2 hb3
                        have HAL : Hid (Calls Try.prog 37 #[.pointer (some ⟨pd, 0, none⟩), .pointer (some ⟨pr, 0, none⟩), .pointer P, .pointer K] (V8.drewN q9) (Yes (V8.drewN q9))) := by have h9 := HD9.out; exact alike_two h9.two h9.sim HPK.out.1 HPK.out.2
                        go_wp2_with (go_at_call 37; refine HAL.out.mono ?_; rintro e w9 ⟨rfl, hb9⟩)
                        go_roundw
                        case rel => exact ⟨i + 1, ej, o, _, _, _, _, _, _, _, P, K, by omega, rfl, rfl, rfl, rfl, by go_num, HPK, HD9.out.keep hb9⟩
                        case measure => simp [intOf]; omega
                · have q5 : (ak == 5) = false := by simp [k5]
                  by_cases k4 : ak = 4
                  · as_aux_lemma =>
                      subst k4
                      clear g0
                      have g0 : V3.cell? ⟨ga, 0, none⟩ = some (.int .i64 4) := hG3.cell 0
                      obtain ⟨⟨xe, J'⟩, hx⟩ : ∃ x, J.begin an = x := ⟨_, rfl⟩
                      have hdd := hd3.keep (Below.refl _ _).drew
                      have HF := Lib.hid (p_begin hdd an)
                      have HQ : Hid (∀ W, (⟨some J, pk, pr, q, R⟩ : SR).At W → Calls Try.prog 36 #[.pointer (some ⟨pk, 0, none⟩), .int .i64 an] W (QJ J pk pr q R W ((J.begin an).1, (J.begin an).2, D))) := fun W hW => q_begin hW hd3.sim an
                      rw [hx] at HF HQ
                      have HD3 := Lib.hid hdd
                      have HG := Lib.hid (And.intro hG3 hO3)
                      have s1 : V3.drew.cell? ⟨ga, 1, none⟩ = some (.int .i64 an) := (hG3.keep (Below.refl _ _).drew).cell 1
                      clear hd3 hG3 hO3 hx hdd g1 g2
                      go_upto_region 45 with (fail)
                      clear g0
                      go_region_held3 (fun W => W.cell? ⟨ga, 1, none⟩ = some (.int .i64 an)) (first | exact s1 | exact hG5.cell 1 | exact hG6.cell 1) ((first
                        | (go_at_call 25
                           refine HF.out.mono ?_
                           rintro e V5 ⟨rfl, v5, p5, hX5⟩
                           have hy5 := (HD3.out.two.xact hX5).y
                           obtain ⟨hG5, hO5⟩ := HD3.out.two.xblk (HG.out.1.keep (Below.refl _ _).drew) HG.out.2 hX5)
                        | (go_at_call 11
                           refine (num_any _ _).mono ?_
                           rintro e w' ⟨rfl, rfl⟩)
                        | (go_at_call 36
                           refine (HQ.out _ hy5).mono ?_
                           rintro e V6 ⟨rfl, R6, q6, hY6, hS6⟩
                           obtain ⟨hG6, hO6⟩ := (HD3.out.two.xact hX5).yblk hG5 hO5 hY6)))
                      have HD9 := Lib.hid (done_both (x := (xe, J', D)) (m' := 600 * (i + 1)) HD3.out hX5 hY6 hS6 rfl rfl (by have := HD3.out.lg; simp only at *; omega))
                      clear hX5 hY6 hS6 hy5 HD3 HF HQ HG hG5 hO5 hG6 hO6 s1
                      have HAL : Hid (Calls Try.prog 37 #[.pointer (some ⟨pd, 0, none⟩), .pointer (some ⟨pr, 0, none⟩), .pointer (some ⟨pj, 0, none⟩), .pointer (some ⟨pk, 0, none⟩)] V6 (Yes V6)) := by have h9 := HD9.out; exact alike_two h9.two h9.sim rfl rfl
                      go_wp2_with (go_at_call 37; refine HAL.out.mono ?_; rintro e w9 ⟨rfl, hb9⟩)
                      go_roundw
                      case rel => exact ⟨i + 1, ep, some J', _, _, _, _, _, _, _, (some ⟨pj, 0, none⟩), (some ⟨pk, 0, none⟩), by omega, rfl, rfl, rfl, rfl, by go_num, HPK, HD9.out.keep hb9⟩
                      case measure => simp [intOf]; omega
                  · as_aux_lemma =>
                      have q4 : (ak == 4) = false := by simp [k4]
                      clear k0 k1 k2 k3 k4 k5
                      have HD9 := Lib.hid (hd3.more (m' := 600 * (i + 1)) (by omega))
                      clear hd3 hG3 hO3 g1 g2
                      go_upto_region 46 with (fail)
                      have HAL : Hid (Calls Try.prog 37 #[.pointer (some ⟨pd, 0, none⟩), .pointer (some ⟨pr, 0, none⟩), .pointer (some ⟨pj, 0, none⟩), .pointer (some ⟨pk, 0, none⟩)] V3 (Yes V3)) := by have h9 := HD9.out; exact alike_two h9.two h9.sim rfl rfl
                      go_wp2_with (go_at_call 37; refine HAL.out.mono ?_; rintro e w9 ⟨rfl, hb9⟩)
                      go_roundw
                      case rel => exact ⟨i + 1, ep, some J, _, _, _, _, _, _, _, (some ⟨pj, 0, none⟩), (some ⟨pk, 0, none⟩), by omega, rfl, rfl, rfl, rfl, by go_num, HPK, HD9.out.keep hb9⟩
                      case measure => simp [intOf]; omega
    · have hdi : decide (i < n) = false := by simp; omega
      have HD3 := Lib.hid hd
      clear hd
      go_wp2_with (go_at_call 9; refine (live_from HD3.out.two.bel).mono ?_; rintro e w3 ⟨rfl, hb3⟩)
      go_ret
      exact ⟨rfl, hb3⟩
end Go.Proofs.Ytcnhfbckaacalaa
