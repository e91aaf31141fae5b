/- The walk of the statement LinksBoth. -/
import Derived.Test.YtpfikhamokjdjaaLBotL
namespace Go.Proofs.Ytpfikhamokjdjaa
open Go.RowKit
set_option linter.unusedVariables false
set_option maxRecDepth 100000 in
set_option maxHeartbeats 16000000 in
theorem linksBoth_any (A : Option Addr) (l : List ActL) (len c : Nat) (who : Int) (W : World) (hl : l.length = len) (hnc : len ≤ c) (hcm : c ≤ 9223372036854775807) (hr : RdLA W A l) (ho : ∀ a ∈ l, a.Ok) (hw : i64ok who) :
    Calls Try.prog 3 #[.slice A len c, .int .i64 who] W (Yes W) := by
  have HLV := Lib.hid live_v
  by_cases hbig : 150 < len
  · have d0 : decide ((150 : Int) < (len : Int)) = true := by simp; omega
    clear hnc hcm
    go_enter Try.func3, Try.ntmps3
    go_wp2_with (go_at_call 8; refine (HLV.out _).mono ?_; rintro e w5 ⟨rfl, hb⟩; have HB5 := Lib.hid hb; clear hb)
    go_ret
    exact ⟨rfl, HB5.out⟩
  · have d0 : decide ((150 : Int) < (len : Int)) = false := by simp; omega
    have HL := Lib.hid hl
    have HR := Lib.hid hr
    have HO := Lib.hid ho
    have HW := Lib.hid hw
    have HNC := Lib.hid hnc
    have HCM := Lib.hid hcm
    have hlb : len ≤ 150 := by omega
    have HNEW := Lib.hid new_v
    clear hl hr ho hw hnc hcm hbig
    go_enter Try.func3, Try.ntmps3
    go_wp2_with (go_at_call 9; refine (HNEW.out _).mono ?_; rintro e V0 ⟨pm, b1, b2, rfl, h0⟩; have H0 := Lib.hid h0; clear h0)
    go_loopw [6, 7] (fun u i wr => ∃ (k : Nat) (L : PL) (K : WL), k ≤ len ∧ i = .int .i64 (k : Int) ∧ BotR W V0 pm b1 b2 l k L K u wr) (fun _ i _ => len + 1 - (intOf i).toNat)
    case atStart => exact ⟨0, [], [], Nat.zero_le _, rfl, H0.out, World.ownsRow_nil _ _ _ _, ⟨Nat.le_refl _, Nat.le_refl _⟩, H0.out.hi.1, H0.out.hi.2.1, H0.out.hi.2.2, H0.out.old.size, Nat.le_refl _⟩
    case round =>
      obtain ⟨k, L, K, hk, rfl, hbr⟩ := hrel
      have HBR := Lib.hid hbr
      clear hbr H0
      by_cases hlt : k < len
      · have hlt' : decide (k < len) = true := by simpa using hlt
        have hkl : k < l.length := by rw [HL.out]; exact hlt
        have hrw := HR.out.below HBR.out.lk.old
        obtain ⟨g, off, rfl, c0, c1, c2, c3⟩ := hrw.at_ hkl
        have HRW : Hid (∀ V, Below W.heap.size W V → ActLAt V g (off + k * 4) l[k]) := fun V hb => by
          obtain ⟨g', off', e, h9⟩ := (HR.out.below hb).at_ hkl
          obtain ⟨rfl, rfl, _⟩ := Addr.mk.inj (Option.some.inj e)
          exact h9
        obtain ⟨x, hx⟩ : ∃ x, l[k] = x := ⟨_, rfl⟩
        have hok := HO.out _ (List.getElem_mem hkl)
        rw [hx] at c0 c1 c2 c3 HRW hok
        have HX := Lib.hid hx
        have HOK := Lib.hid hok
        have q1 : (0 : Int) ≤ (k : Int) := by omega
        have q2 : (k : Int) < (len : Int) := by omega
        have q3 : (len : Int) ≤ (c : Int) := by have := HNC.out; omega
        have hkb : k ≤ 99000 := by omega
        have HLL := Lib.hid (show (linkP L x.a x.b).2.length ≤ k + 1 by have h9 := linkP_len (L := L) (a := x.a) (b := x.b); have := HBR.out.n.1; omega)
        have HKK := Lib.hid (show (watchP K ⟨x.c, x.a, x.b⟩).2.length ≤ k + 1 by have h9 := watchP_ref (K := K) (x := ⟨x.c, x.a, x.b⟩); have := HBR.out.n.2; omega)
        have HL1 := Lib.hid (show L.length ≤ k + 1 by have := HBR.out.n.1; omega)
        have HK1 := Lib.hid (show K.length ≤ k + 1 by have := HBR.out.n.2; omega)
        clear hrw hok hx
        have HGO : Hid (∀ (L' : PL) (K' : WL) U, LK W U pm b1 b2 (k + 1) L' K' → L'.length ≤ k + 1 → K'.length ≤ k + 1 → Fr (fun k => k = b1 ∨ k = b2) wr U → ∀ V u' w3, Below U.heap.size U V → w3.ownsRow V0.heap.size 2 1 u' (2 * k + 2) ((allZ (l.take k)).map (Value.int .i64) ++ [.int .i64 x.a, .int .i64 x.b]) → V.grownBy w3 u6.ownBlock → BotR W V0 pm b1 b2 l (k + 1) L' K' u' w3) := fun L' K' U hu h1 h2 hf V u' w3 hb ho hg =>
          HBR.out.app hkl HX.out hu (HBR.out.call hf).1 h1 h2 hb (HBR.out.call hf).2 ho hg
        by_cases hkd : x.kind = 0
        case' pos =>
          have dk : (x.kind == 0) = true := by simpa using hkd
          clear hkd c3
          go_upto_region 11 with (fail)
          go_still_tail 11, (by kernel_rfl)
          refine wpList_world (fun U => LK W U pm b1 b2 k L K ∧ Fr (fun k => k = b1 ∨ k = b2) wr U) ⟨HBR.out.lk.keep (Below.refl _ _).drew, (Fr.refl _ _).drew⟩ ?_
          clear c0 c1 c2 dk
          rintro U0 ⟨hu, hf⟩
          have HU0 := Lib.hid hu
          have HF0 := Lib.hid hf
          clear hu hf
          go_upto_region 13 with (go_at_call 10; refine (link_w HU0.out x.a x.b HOK.out.a HOK.out.b (by omega) rfl).mono ?_; rintro e U1 ⟨rfl, hu, hf⟩; have HU1 := Lib.hid hu; have HF1 := Lib.hid (HF0.out.same hf); clear hu hf)
          refine wp_world (fun U => ∃ L' K', LK W U pm b1 b2 (k + 1) L' K' ∧ L'.length ≤ k + 1 ∧ K'.length ≤ k + 1 ∧ Fr (fun k => k = b1 ∨ k = b2) wr U) ⟨_, _, HU1.out, HLL.out, HK1.out, HF1.out⟩ ?_
          clear HU0 HF0 HU1 HF1
        case' neg =>
          have dk : (x.kind == 0) = false := by simpa using hkd
          clear hkd
          go_upto_region 12 with (fail)
          go_still_tail 17, (by kernel_rfl)
          refine wpList_world (fun U => LK W U pm b1 b2 k L K ∧ Fr (fun k => k = b1 ∨ k = b2) wr U) ⟨HBR.out.lk.keep (Below.refl _ _).drew, (Fr.refl _ _).drew⟩ ?_
          clear c0 c1 c2 c3 dk
          rintro U0 ⟨hu, hf⟩
          have HU0 := Lib.hid hu
          have HF0 := Lib.hid hf
          clear hu hf
          have HWT := Lib.hid (watch_w HU0.out ⟨x.c, x.a, x.b⟩ ⟨HOK.out.c, HOK.out.a, HOK.out.b⟩ (by omega) rfl)
          simp only at HWT
          go_upto_region 13 with (go_at_call 11; refine HWT.out.mono ?_; rintro e U1 ⟨rfl, hu, hf⟩; have HU1 := Lib.hid hu; have HF1 := Lib.hid (HF0.out.same hf); clear hu hf)
          refine wp_world (fun U => ∃ L' K', LK W U pm b1 b2 (k + 1) L' K' ∧ L'.length ≤ k + 1 ∧ K'.length ≤ k + 1 ∧ Fr (fun k => k = b1 ∨ k = b2) wr U) ⟨_, _, HU1.out, HL1.out, HKK.out, HF1.out⟩ ?_
          clear HU0 HF0 HU1 HF1 HWT
        all_goals
          rintro U ⟨L', K', hu, hl1, hk1, hf⟩
          have HU := Lib.hid hu
          have HG := Lib.hid (HGO.out L' K' U hu hl1 hk1 hf)
          have HCU : Hid (∀ V, Below U.heap.size U V → V.cell? ⟨g, off + k * 4 + 1, none⟩ = some (.int .i64 x.a) ∧ V.cell? ⟨g, off + k * 4 + 2, none⟩ = some (.int .i64 x.b)) := fun V hb => by
            obtain ⟨_, h1, h2, _⟩ := HRW.out V (hu.old.trans (hb.mono hu.old.size))
            exact ⟨h1, h2⟩
          have HRU := Lib.hid (HBR.out.call hf)
          have HZU := Lib.hid (show 2 * k + 2 ≤ 1000 by omega)
          clear hu hl1 hk1 hf HGO
          refine wp_region_W 12 (fun V => Below U.heap.size U V) (by kernel_rfl) ?_ (fun hS0 => ?_)
          · exact (Below.refl _ _).drew
          (refine wpAnyW_take (i := 0) (v := ?_) rfl (by kernel_rfl) (by kernel_rfl) (by kernel_rfl) (by kernel_rfl) (fun _ _ _ h => h) (Or.inl ⟨by kernel_rfl, ?_⟩) (by assumption) ?_; rotate_left; focus (intro V9 hS9; go_simp; (try (with_reducible rfl)); done))
          try simp only [Act.put, List.getElem_toArray, List.getElem_cons_zero, List.setIfInBounds_toArray, List.set_cons_succ, List.set_cons_zero]
          (refine wpAnyW_take (i := 1) (v := ?_) rfl (by kernel_rfl) (by kernel_rfl) (by kernel_rfl) (by kernel_rfl) (fun _ _ _ h => h) (Or.inl ⟨by kernel_rfl, ?_⟩) (by assumption) ?_; rotate_left; focus (intro V9 hS9; go_simp; (try (with_reducible rfl)); done))
          try simp only [Act.put, List.getElem_toArray, List.getElem_cons_succ, List.getElem_cons_zero, List.setIfInBounds_toArray, List.set_cons_succ, List.set_cons_zero]
          (refine wpAnyW_take (i := 2) (v := ?_) rfl (by kernel_rfl) (by kernel_rfl) (by kernel_rfl) (by kernel_rfl) (fun _ _ _ h => h) (Or.inl ⟨by kernel_rfl, ?_⟩) (by assumption) ?_; rotate_left; focus (intro V9 hS9; go_simp; (try (with_reducible rfl)); done))
          try simp only [Act.put, List.getElem_toArray, List.getElem_cons_succ, List.getElem_cons_zero, List.setIfInBounds_toArray, List.set_cons_succ, List.set_cons_zero]
          (refine wpAnyW_take (i := 3) (v := ?_) rfl (by kernel_rfl) (by kernel_rfl) (by kernel_rfl) (by kernel_rfl) (fun _ _ _ h => h) (Or.inl ⟨by kernel_rfl, ?_⟩) (by assumption) ?_; rotate_left; focus (intro V9 hS9; go_simp; (try (with_reducible rfl)); done))
          try simp only [Act.put, List.getElem_toArray, List.getElem_cons_succ, List.getElem_cons_zero, List.setIfInBounds_toArray, List.set_cons_succ, List.set_cons_zero]
          (refine wpAnyW_take (i := 4) (v := ?_) rfl (by kernel_rfl) (by kernel_rfl) (by kernel_rfl) (by kernel_rfl) (fun _ _ _ h => h) (Or.inl ⟨by kernel_rfl, ?_⟩) (by assumption) ?_; rotate_left; focus (intro V9 hS9; go_simp; (try (with_reducible rfl)); done))
          try simp only [Act.put, List.getElem_toArray, List.getElem_cons_succ, List.getElem_cons_zero, List.setIfInBounds_toArray, List.set_cons_succ, List.set_cons_zero]
          (refine wpAnyW_take (i := 5) (v := ?_) rfl (by kernel_rfl) (by kernel_rfl) (by kernel_rfl) (by kernel_rfl) (fun _ _ _ h => h) (Or.inl ⟨by kernel_rfl, ?_⟩) (by assumption) ?_; rotate_left; focus (intro V9 hS9; obtain ⟨j1, j2⟩ := HCU.out V9 hS9; go_simp; (try (with_reducible rfl)); done))
          try simp only [Act.put, List.getElem_toArray, List.getElem_cons_succ, List.getElem_cons_zero, List.setIfInBounds_toArray, List.set_cons_succ, List.set_cons_zero]
          (refine wpAnyW_take (i := 6) (v := ?_) rfl (by kernel_rfl) (by kernel_rfl) (by kernel_rfl) (by kernel_rfl) (fun _ _ _ h => h) (Or.inl ⟨by kernel_rfl, ?_⟩) (by assumption) ?_; rotate_left; focus (intro V9 hS9; go_simp; (try (with_reducible rfl)); done))
          try simp only [Act.put, List.getElem_toArray, List.getElem_cons_succ, List.getElem_cons_zero, List.setIfInBounds_toArray, List.set_cons_succ, List.set_cons_zero]
          (refine wpAnyW_take (i := 7) (v := ?_) rfl (by kernel_rfl) (by kernel_rfl) (by kernel_rfl) (by kernel_rfl) (fun _ _ _ h => h) (Or.inl ⟨by kernel_rfl, ?_⟩) (by assumption) ?_; rotate_left; focus (intro V9 hS9; go_simp; (try (with_reducible rfl)); done))
          try simp only [Act.put, List.getElem_toArray, List.getElem_cons_succ, List.getElem_cons_zero, List.setIfInBounds_toArray, List.set_cons_succ, List.set_cons_zero]
          (refine wpAnyW_take (i := 8) (v := ?_) rfl (by kernel_rfl) (by kernel_rfl) (by kernel_rfl) (by kernel_rfl) (fun _ _ _ h => h) (Or.inl ⟨by kernel_rfl, ?_⟩) (by assumption) ?_; rotate_left; focus (intro V9 hS9; go_simp; (try (with_reducible rfl)); done))
          try simp only [Act.put, List.getElem_toArray, List.getElem_cons_succ, List.getElem_cons_zero, List.setIfInBounds_toArray, List.set_cons_succ, List.set_cons_zero]
          (refine wpAnyW_take (i := 9) (v := ?_) rfl (by kernel_rfl) (by kernel_rfl) (by kernel_rfl) (by kernel_rfl) (fun _ _ _ h => h) (Or.inl ⟨by kernel_rfl, ?_⟩) (by assumption) ?_; rotate_left; focus (intro V9 hS9; go_simp; (try (with_reducible rfl)); done))
          try simp only [Act.put, List.getElem_toArray, List.getElem_cons_succ, List.getElem_cons_zero, List.setIfInBounds_toArray, List.set_cons_succ, List.set_cons_zero]
          (refine wpAnyW_take (i := 10) (v := ?_) rfl (by kernel_rfl) (by kernel_rfl) (by kernel_rfl) (by kernel_rfl) (fun _ _ _ h => h) (Or.inl ⟨by kernel_rfl, ?_⟩) (by assumption) ?_; rotate_left; focus (intro V9 hS9; obtain ⟨j1, j2⟩ := HCU.out V9 hS9; go_simp; (try (with_reducible rfl)); done))
          try simp only [Act.put, List.getElem_toArray, List.getElem_cons_succ, List.getElem_cons_zero, List.setIfInBounds_toArray, List.set_cons_succ, List.set_cons_zero]
          refine wpAnyW_ready (rs := [11]) (by kernel_rfl) (by simp) ?_
          refine AllReadyW.cons rfl (fun K hK => ?_) AllReadyW.nil
          go_simp
          refine hK.out _ _ (below_step hS0 (below_alloc _ _)) (fun _ => ?_)
          clear hK K
          try simp only [Act.put, List.getElem_toArray, List.getElem_cons_succ, List.getElem_cons_zero, List.setIfInBounds_toArray, List.set_cons_succ, List.set_cons_zero]
          refine wpAnyW_ready (rs := [12]) (by kernel_rfl) (by simp) ?_
          refine AllReadyW.consE rfl (by kernel_rfl) (fun K hK => ?_) AllReadyW.nil
          refine step_appO i64T (by kernel_rfl) (.tmp 65) (.tmp 76) rfl V0.heap.size (2 * k) ((allZ (l.take k)).map (Value.int .i64)) u6 (own_bel HRU.out.1 (below_step hS0 (below_alloc _ _))) (some ⟨U.drew.heap.size, 0, none⟩) 2 2 [.int .i64 x.a, .int .i64 x.b] (by rfl) (by rfl) rfl (cs_blk9 (Blk.new U.drew _ _)) (by simp [Value.oneCell']) (by unfold maxLen; have := HZU.out; omega) (by have := HZU.out; omega) (by have := HRU.out.2; have := hS0.size; simp at *; omega) ?_
          intro v3 w3 ho3 hg3 _
          have HNX := Lib.hid (HG.out _ _ _ (below_step hS0 (below_alloc _ _)) ho3 hg3)
          clear ho3 hg3
          refine hK.out _ _ ?_
          clear hK K
          try simp only [Act.put, List.getElem_toArray, List.getElem_cons_succ, List.getElem_cons_zero, List.setIfInBounds_toArray, List.set_cons_succ, List.set_cons_zero]
          refine wpAnyW_ready (rs := [13]) (by kernel_rfl) (by simp) ?_
          refine AllReadyW.consE rfl (by kernel_rfl) (fun K hK => ?_) AllReadyW.nil
          go_simp
          refine hK.out _ _ ?_
          clear hK K
          refine wpAnyW_done (by kernel_rfl) ?_ _
          go_wp2
          go_roundw
          case rel => exact ⟨k + 1, _, _, hlt, by go_num, HNX.out⟩
          case measure => simp [intOf]; omega
      · obtain rfl : k = len := by omega
        have hd1 : decide (k < k) = false := by simp
        have htk : l.take k = l := List.take_of_length_le (by rw [HL.out]; exact Nat.le_refl _)
        have hrow := HBR.out.row
        rw [htk] at hrow
        obtain ⟨zs, hzs⟩ : ∃ zs, allZ l = zs := ⟨_, rfl⟩
        have hzl : zs.length = 2 * k := by rw [← hzs, allZ_len, HL.out]
        have HZO : Hid (∀ z ∈ zs, i64ok z) := fun z hz => allZ_ok HO.out z (by rw [hzs]; exact hz)
        rw [hzs] at hrow
        obtain ⟨m, hm⟩ : ∃ m, 2 * k = m := ⟨_, rfl⟩
        rw [hm] at hrow hzl
        have hmb : m ≤ 300 := by omega
        obtain ⟨Az, cz, rfl⟩ := own_slice9 hrow
        have HLB := Lib.hid (show L.length ≤ 1000000 by have := HBR.out.n.1; omega)
        have HKB := Lib.hid (show K.length ≤ 1000000 by have := HBR.out.n.2; omega)
        have HDR := Lib.hid (drop_w HBR.out.lk who HW.out HLB.out HKB.out)
        have HM := Lib.hid hzl
        have HMK := Lib.hid hm
        have HROW := Lib.hid hrow
        have HHI := Lib.hid HBR.out.hi
        have hLO := off_ok HBR.out.lk.lk who
        have HLO := Lib.hid hLO
        have HWH : Hid (∀ a z, z ∈ ofP (offP who L) a → z ≠ who ∧ a ≠ who) := fun a z hz => ofP_who HBR.out.lk.lk hz
        clear hzs hzl hm htk hrow hLO
        go_upto_region 15 with (go_at_call 12; refine HDR.out.mono ?_; rintro e V1 ⟨va, vb, rfl, _, _, hv1, hf1⟩; have HV1 := Lib.hid hv1; have HROW1 := Lib.hid (own_fr9 HROW.out hf1 (fun g hg hF => by have h9 := (World.ownsRow.lt HROW.out g hg).1; have := HHI.out; omega)); clear hv1 hf1)
        have HLB2 := Lib.hid (show (offP who L).length ≤ 1000000 from Nat.le_trans (List.length_filter_le _ _) HLB.out)
        have HKB2 := Lib.hid (show (onK who K).length ≤ 1000000 from Nat.le_trans (List.length_filter_le _ _) HKB.out)
        generalize offP who L = L2 at *
        obtain ⟨K2, hK2⟩ : ∃ K2, onK who K = K2 := ⟨_, rfl⟩
        have HK2 := Lib.hid hK2
        rw [hK2] at HKB2 HV1 HLO
        clear HBR HROW HDR HLB HKB hK2
        go_wp2
        go_loopw [8, 9, 10, 11, 12, 13] (fun i _ _ _ _ _ wr => ∃ n : Nat, n ≤ m ∧ i = .int .i64 (n : Int) ∧ Below V1.heap.size V1 wr) (fun i _ _ _ _ _ _ => m + 1 - (intOf i).toNat)
        case atStart => exact ⟨0, Nat.zero_le _, rfl, Below.refl _ _⟩
        case round =>
          obtain ⟨n, hn, rfl, hbn⟩ := hrel
          have HBN := Lib.hid hbn
          clear hbn
          by_cases hltn : n < m
          · have hltn' : decide (n < m) = true := by simpa using hltn
            have hnz : n < zs.length := by rw [HM.out]; exact hltn
            have hrw := own_bel HROW1.out HBN.out
            obtain ⟨gz, rfl, hcz⟩ := own_at9 (g := 0) (c := cz) hrw (by omega)
            have z0 := cellI hrw hnz HM.out
            obtain ⟨z, hz⟩ : ∃ z, zs[n] = z := ⟨_, rfl⟩
            rw [hz] at z0
            have HZ := Lib.hid hz
            have HOF := Lib.hid (of_v (HV1.out.keep HBN.out) z HLB2.out)
            obtain ⟨fs, hfs⟩ : ∃ fs, ofP L2 z = fs := ⟨_, rfl⟩
            have hfl : fs.length ≤ 1000000 := by rw [← hfs]; exact Nat.le_trans ofP_len HLB2.out
            have HFY : Hid (∀ y ∈ fs, z ∈ ofP L2 y ∧ y ≠ z ∧ y ≠ who ∧ z ≠ who) := fun y hy => by
              rw [← hfs] at hy
              exact ⟨ofP_both HLO.out hy, ofP_ne HLO.out hy, HWH.out _ _ hy⟩
            have HFO := Lib.hid (show fs.Pairwise (fun x y => x < y) by rw [← hfs]; exact ofP_lt HLO.out z)
            rw [hfs] at HOF
            obtain ⟨q, hq⟩ : ∃ q, fs.length = q := ⟨_, rfl⟩
            have HQ := Lib.hid hq
            have hqb : q ≤ 1000000 := by omega
            have q1 : (0 : Int) ≤ (n : Int) := by omega
            have q2 : (n : Int) < (m : Int) := by omega
            have HOF2 : Hid (Calls Try.prog 13 #[.pointer (some ⟨pm, 0, none⟩), .int .i64 z] wr fun e w' => ∃ B x, e = .returned (.slice B q x) ∧ w'.ownsRow wr.heap.size 2 1 (.slice B q x) q (fs.map (Value.int .i64)) ∧ Below wr.heap.size wr w') := HOF.out.mono fun e w' h9 => by
              obtain ⟨v, rfl, h1, h2⟩ := h9
              rw [HQ.out] at h1
              obtain ⟨B, x, rfl⟩ := own_slice9 h1
              exact ⟨B, x, rfl, h1, h2⟩
            clear hz hfs hq hrw hfl HOF
            go_wp2_with (go_at_call 13; refine HOF2.out.mono ?_; rintro e U1 ⟨Bf, xf, rfl, hr1, hb1⟩; have HR1 := Lib.hid hr1; have HB1 := Lib.hid (HBN.out.trans (hb1.mono HBN.out.size)); clear hr1 hb1)
            clear z0 HOF2
            go_loopw [10, 11, 12, 13] (fun i _ _ _ wx => ∃ p : Nat, p ≤ q ∧ i = .int .i64 (p : Int) ∧ Below U1.heap.size U1 wx) (fun i _ _ _ _ => q + 1 - (intOf i).toNat)
            case atStart => exact ⟨0, Nat.zero_le _, rfl, Below.refl _ _⟩
            case round =>
              obtain ⟨p, hp, rfl, hbp⟩ := hrel
              have HBP := Lib.hid hbp
              have HBPV := Lib.hid (HB1.out.trans (hbp.mono HB1.out.size))
              clear hbp
              by_cases hltp : p < q
              · have hltp' : decide (p < q) = true := by simpa using hltp
                have hpf : p < fs.length := by rw [HQ.out]; exact hltp
                have hrf := own_bel HR1.out HBP.out
                obtain ⟨gf, rfl, hcf⟩ := own_at9 (g := 0) (c := xf) hrf (by omega)
                have y0 := cellI hrf hpf HQ.out
                obtain ⟨hy1, hy2, hy3, hy4⟩ := HFY.out _ (List.getElem_mem hpf)
                have HPQ : Hid (∀ h : 0 < p, decide (fs[p] ≤ fs[p - 1]'(by omega)) = false) := fun h => by
                  have h9 := List.pairwise_iff_getElem.1 HFO.out (p - 1) p (by omega) hpf (by omega)
                  simp
                  omega
                have HYP : Hid (∀ V, Below U1.heap.size U1 V → V.cell? ⟨gf, p, none⟩ = some (.int .i64 fs[p])) := fun V hb => cellI (own_bel HR1.out hb) hpf HQ.out
                generalize fs[p] = y at y0 hy1 hy2 hy3 hy4 HPQ HYP
                have HOB := Lib.hid (of_v (HV1.out.keep HBPV.out) y HLB2.out)
                obtain ⟨bs, hbs⟩ : ∃ bs, ofP L2 y = bs := ⟨_, rfl⟩
                have hbl : bs.length ≤ 1000000 := by rw [← hbs]; exact Nat.le_trans ofP_len HLB2.out
                rw [hbs] at HOB hy1
                obtain ⟨r, hr9⟩ : ∃ r, bs.length = r := ⟨_, rfl⟩
                have HRL := Lib.hid hr9
                have hrb : r ≤ 1000000 := by omega
                have HIN := Lib.hid hy1
                have d1 : (y == z) = false := by simpa using hy2
                have d2 : (y == who) = false := by simpa using hy3
                have d3 : (z == who) = false := by simpa using hy4
                have p1 : (0 : Int) ≤ (p : Int) := by omega
                have p2 : (p : Int) < (q : Int) := by omega
                have HOB2 : Hid (Calls Try.prog 13 #[.pointer (some ⟨pm, 0, none⟩), .int .i64 y] wr fun e w' => ∃ B x, e = .returned (.slice B r x) ∧ w'.ownsRow wr.heap.size 2 1 (.slice B r x) r (bs.map (Value.int .i64)) ∧ Below wr.heap.size wr w') := HOB.out.mono fun e w' h9 => by
                  obtain ⟨v, rfl, h1, h2⟩ := h9
                  rw [HRL.out] at h1
                  obtain ⟨B, x, rfl⟩ := own_slice9 h1
                  exact ⟨B, x, rfl, h1, h2⟩
                clear hbs hr9 hrf hbl HOB hy1 hy2 hy3 hy4
                go_wp2_with (go_at_call 13; refine HOB2.out.mono ?_; rintro e U3 ⟨Bb, xb, rfl, hr3, hb3⟩; have HR3 := Lib.hid hr3; have HB3 := Lib.hid (HBP.out.trans (hb3.mono HBP.out.size)); clear hr3 hb3)
                clear y0 HOB2
                go_loopw [12, 13] (fun f i wy => ∃ j : Nat, j ≤ r ∧ f = .bool (decide (z ∈ bs.take j)) ∧ i = .int .i64 (j : Int) ∧ Below U3.heap.size U3 wy) (fun _ i _ => r + 1 - (intOf i).toNat)
                case atStart => exact ⟨0, Nat.zero_le _, by simp, rfl, Below.refl _ _⟩
                case round =>
                  obtain ⟨j, hj, rfl, rfl, hbj⟩ := hrel
                  have HBJ := Lib.hid hbj
                  have HBJ1 := Lib.hid (HB3.out.trans (hbj.mono HB3.out.size))
                  have HBJV := Lib.hid (HB1.out.trans (HBJ1.out.mono HB1.out.size))
                  have z0 : wr.cell? ⟨gz, n, none⟩ = some (.int .i64 z) := by have h9 := cellI (own_bel HROW1.out HBJV.out) hnz HM.out; rw [HZ.out] at h9; exact h9
                  clear hbj
                  by_cases hltj : j < r
                  · have hltj' : decide (j < r) = true := by simpa using hltj
                    have hjb : j < bs.length := by rw [HRL.out]; exact hltj
                    have hrb3 := own_bel HR3.out HBJ.out
                    obtain ⟨gb, rfl, hcb⟩ := own_at9 (g := 0) (c := xb) hrb3 (by omega)
                    have x0 := cellI hrb3 hjb HRL.out
                    have HTK := Lib.hid (mem_take_s (z := z) hjb)
                    generalize decide (z ∈ bs.take j) = f at HTK
                    generalize bs[j] = x at x0 HTK
                    have j1 : (0 : Int) ≤ (j : Int) := by omega
                    have j2 : (j : Int) < (r : Int) := by omega
                    clear hrb3 d1 d2 d3
                    cases f with
                    | true =>
                      have HTT := Lib.hid (show decide (z ∈ bs.take (j + 1)) = true by rw [HTK.out]; rfl)
                      go_wp2
                      go_quiet (fail)
                      clear x0 z0
                      go_wp2
                      go_roundw
                      case rel => exact ⟨j + 1, hltj, by rw [HTT.out], by go_num, below_drewN HBJ.out _⟩
                      case measure => simp [intOf]; omega
                    | false =>
                      have HTT := Lib.hid (show decide (z ∈ bs.take (j + 1)) = (x == z) by rw [HTK.out]; rfl)
                      go_wp2
                      go_quiet (fail)
                      clear x0 z0
                      go_wp2
                      go_roundw
                      case rel => exact ⟨j + 1, hltj, by rw [HTT.out], by go_num, below_drewN HBJ.out _⟩
                      case measure => simp [intOf]; omega
                  · obtain rfl : j = r := by omega
                    have hdj : decide (j < j) = false := by simp
                    have hfd : decide (z ∈ bs.take j) = true := by
                      rw [List.take_of_length_le (by rw [HRL.out]; exact Nat.le_refl _)]
                      exact decide_eq_true HIN.out
                    rw [hfd]
                    have y0 := HYP.out wr HBJ1.out
                    clear hfd
                    by_cases hp0 : p = 0
                    · subst hp0
                      rw [show ((0 : Nat) : Int) = 0 from rfl]
                      clear p1 p2
                      have p2 : (0 : Int) < (q : Int) := by omega
                      go_upto_region 28 with (fail)
                      go_quiet (fail)
                      clear z0 y0 d1 d2 d3
                      go_wp2
                      go_roundw
                      case rel => exact ⟨1, hltp, rfl, below_drewN HBJ1.out _⟩
                      case measure => simp [intOf]
                    · have hpp : 0 < p := by omega
                      have hpf1 : p - 1 < fs.length := by omega
                      have d4 := HPQ.out hpp
                      have y1 := cellI (own_bel HR1.out HBJ1.out) hpf1 HQ.out
                      generalize fs[p - 1] = yp at d4 y1
                      have e0 : decide ((0 : Int) < (p : Int)) = true := by simp; omega
                      have e0' : decide (0 < p) = true := by simp; omega
                      have p4 : (0 : Int) ≤ (p : Int) - 1 := by omega
                      have p4' : (1 : Int) ≤ (p : Int) := by omega
                      have p5 : (p : Int) - 1 < (q : Int) := by omega
                      clear hp0
                      go_upto_region 28 with (fail)
                      have e1 : ((p : Int) - 1).toNat = p - 1 := by omega
                      have e2 : IntKind.i64.wrap ((p : Int) - 1) = (p : Int) - 1 := IntWalk.i64_in _ (by omega)
                      go_quiet (fail)
                      clear z0 y0 y1 d1 d2 d3 d4 e0 e0' e1 e2
                      go_wp2
                      go_roundw
                      case rel => exact ⟨p + 1, hltp, by go_num, below_drewN HBJ1.out _⟩
                      case measure => simp [intOf]; omega
              · obtain rfl : p = q := by omega
                have hdp : decide (p < p) = false := by simp
                go_wp2
                go_roundw
                case rel => exact ⟨n + 1, hltn, by go_num, HBPV.out⟩
                case measure => simp [intOf]; omega
          · obtain rfl : n = m := by omega
            have hdn : decide (n < n) = false := by simp
            have HWS := Lib.hid (watches_w (HV1.out.keep HBN.out) HKB2.out)
            obtain ⟨ws, hws⟩ : ∃ ws, wsP K2 = ws := ⟨_, rfl⟩
            have HWM : Hid (∀ x ∈ ws, x.to ≠ who ∧ x.fr ≠ who) := fun x hx => by
              rw [← hws, ← HK2.out] at hx
              exact onK_mem hx
            have hwl : ws.length ≤ 1000000 := by rw [← hws, (wsP_perm K2).length_eq]; exact HKB2.out
            rw [hws] at HWS
            obtain ⟨q, hq⟩ : ∃ q, ws.length = q := ⟨_, rfl⟩
            have HQ := Lib.hid hq
            have hqb : q ≤ 1000000 := by omega
            have HWS2 : Hid (Calls Try.prog 14 #[.pointer (some ⟨pm, 0, none⟩)] wr fun e w' => ∃ B x, e = .returned (.slice B q x) ∧ w'.ownsRow wr.heap.size 33 3 (.slice B q x) q (ws.flatMap encW) ∧ Below wr.heap.size wr w') := HWS.out.mono fun e w' h9 => by
              obtain ⟨v, rfl, h1, h2⟩ := h9
              rw [HQ.out] at h1
              obtain ⟨B, x, rfl⟩ := own_slice9 h1
              exact ⟨B, x, rfl, h1, h2⟩
            clear hws hq hwl HWS
            go_wp2_with (go_at_call 14; refine HWS2.out.mono ?_; rintro e U1 ⟨Bw, xw, rfl, hr1, hb1⟩; have HR1 := Lib.hid hr1; have HB1 := Lib.hid (HBN.out.trans (hb1.mono HBN.out.size)); clear hr1 hb1)
            go_loopw [15] (fun i wx => ∃ p : Nat, p ≤ q ∧ i = .int .i64 (p : Int) ∧ Below U1.heap.size U1 wx) (fun i _ => q + 1 - (intOf i).toNat)
            case atStart => exact ⟨0, Nat.zero_le _, rfl, Below.refl _ _⟩
            case round =>
              obtain ⟨p, hp, rfl, hbp⟩ := hrel
              have HBP := Lib.hid hbp
              clear hbp
              by_cases hltp : p < q
              · have hltp' : decide (p < q) = true := by simpa using hltp
                have hpw : p < ws.length := by rw [HQ.out]; exact hltp
                have hrw := own_bel HR1.out HBP.out
                obtain ⟨gw, rfl, hcw⟩ := own_at9 (g := 0) (c := xw) hrw (by omega)
                obtain ⟨x0, x1, x2⟩ := cellW hrw hpw HQ.out
                obtain ⟨hx1, hx2⟩ := HWM.out _ (List.getElem_mem hpw)
                generalize ws[p] = x at x0 x1 x2 hx1 hx2
                have d1 : (x.to == who) = false := by simpa using hx1
                have d2 : (x.fr == who) = false := by simpa using hx2
                have p1 : (0 : Int) ≤ (p : Int) := by omega
                have p2 : (p : Int) < (q : Int) := by omega
                clear hrw hx1 hx2
                go_wp2
                clear x0 x1 x2 d1 d2
                go_roundw
                case rel => exact ⟨p + 1, hltp, by go_num, HBP.out⟩
                case measure => simp [intOf]; omega
              · obtain rfl : p = q := by omega
                have hdp : decide (p < p) = false := by simp
                go_wp2_with (go_at_call 8; refine (HLV.out _).mono ?_; rintro e w5 ⟨rfl, hb⟩; have HB5 := Lib.hid (below_step HBP.out hb); clear hb)
                go_ret
                have HBW := HV1.out.old.trans (HB1.out.mono HV1.out.old.size)
                exact ⟨rfl, HBW.trans (HB5.out.mono HBW.size)⟩
end Go.Proofs.Ytpfikhamokjdjaa
