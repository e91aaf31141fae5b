/- The walk of the statement LinksPlays. -/
import Derived.Test.YtpfikhamokjdjaaLPlyB
import Derived.Deep.DeepCutAuto
import Derived.Deep.CutBlock
namespace Go.Proofs.Ytpfikhamokjdjaa
open Go.RowKit
set_option linter.unusedVariables false
set_option maxRecDepth 100000 in
set_option maxHeartbeats 16000000 in
theorem linksPlays_any (A : Option Addr) (l : List ActL) (len c : Nat) (W : World) (hl : l.length = len) (hnc : len ≤ c) (hcm : c ≤ 9223372036854775807) (hr : RdLA W A l) (ho : ∀ a ∈ l, a.Ok) :
    Calls Try.prog 6 #[.slice A len c] W (Yes W) := by
  have HLV := Lib.hid live_v
  by_cases hbig : 150 < len
  · have d0 : decide ((150 : Int) < (len : Int)) = true := by simp; omega
    clear hnc hcm
    go_enter Try.func6, Try.ntmps6
    go_wp2_with (go_at_call 8; refine (HLV.out _).mono ?_; rintro e w5 ⟨rfl, hb⟩; have HB5 := Lib.hid hb; clear hb)
    go_ret
    exact ⟨rfl, HB5.out⟩
  · have d0 : decide ((150 : Int) < (len : Int)) = false := by simp; omega
    have HL := Lib.hid hl
    have HR := Lib.hid hr
    have HO := Lib.hid ho
    have HNC := Lib.hid hnc
    have HCM := Lib.hid hcm
    have hlb : len ≤ 150 := by omega
    have HNEW := Lib.hid new_v
    clear hl hr ho hnc hcm hbig
    go_enter Try.func6, Try.ntmps6
    go_upto_region 4 with (go_at_call 9; refine (HNEW.out _).mono ?_; rintro e V0 ⟨pm, b1, b2, rfl, h0⟩; have H0 := Lib.hid h0; clear h0)
    obtain ⟨pr, hpr⟩ : ∃ pr, V0.heap.size = pr := ⟨_, rfl⟩
    go_upto_region 5 with (fail)
    refine wp_world (fun V => PlyR W pm b1 b2 pr pr 0 [] [] V) ?_ ?_
    · have h0 := H0.out
      have hb := below_alloc V0 (.cells #[.slice none 0 0, .slice none 0 0] 50)
      have e1 : psP [] = [] := List.length_eq_zero_iff.1 (by rw [(psP_perm []).length_eq]; rfl)
      have e2 : wsP [] = [] := List.length_eq_zero_iff.1 (by rw [(wsP_perm []).length_eq]; rfl)
      exact ⟨h0.keep hb, ⟨none, 0, none, 0, by rw [e1, e2]; exact ⟨Blk.newAt9 hpr, World.ownsRow_nil _ _ _ _, World.ownsRow_nil _ _ _ _, Nat.le_refl _, fun g e => by simp [Value.ownBlock] at e, fun g e => by simp [Value.ownBlock] at e⟩⟩, by have := h0.hi; omega, by have := h0.old.size; omega, by have := hb.size; omega, ⟨Nat.le_refl _, Nat.le_refl _⟩⟩
    rintro V1 h1
    have H1 := Lib.hid h1
    clear h1 H0 hpr
    go_wp2
    go_loopw [5, 6, 7, 8, 9, 10, 11, 12] (fun i _ _ _ _ _ _ _ wr => ∃ (k : Nat) (L : PL) (M : WL), k ≤ len ∧ i = .int .i64 (k : Int) ∧ PlyR W pm b1 b2 pr pr k L M wr) (fun i _ _ _ _ _ _ _ _ => len + 1 - (intOf i).toNat)
    case atStart => exact ⟨0, [], [], Nat.zero_le _, rfl, H1.out⟩
    case round =>
      obtain ⟨k, L, M, hk, rfl, hp⟩ := hrel
      have HP := Lib.hid hp
      clear hp H1
      by_cases hlt : k < len
      · have hlt' : decide (k < len) = true := by simpa using hlt
        have hkl : k < l.length := by rw [HL.out]; exact hlt
        have hrw := HR.out.below HP.out.lk.old
        obtain ⟨g, off, rfl, c0, c1, c2, c3⟩ := hrw.at_ hkl
        obtain ⟨x, hx⟩ : ∃ x, l[k] = x := ⟨_, rfl⟩
        have hok := HO.out _ (List.getElem_mem hkl)
        rw [hx] at c0 c1 c2 c3 hok
        have HOK := Lib.hid hok
        have q1 : (0 : Int) ≤ (k : Int) := by omega
        have q2 : (k : Int) < (len : Int) := by omega
        have q3 : (len : Int) ≤ (c : Int) := by have := HNC.out; omega
        have hkb : k ≤ 99000 := by omega
        have HLL := Lib.hid (show L.length ≤ 150 ∧ M.length ≤ 150 by have := HP.out.n; omega)
        obtain ⟨gx, hgx⟩ : ∃ gx, wr.heap.size = gx := ⟨_, rfl⟩
        have HGX := Lib.hid (show pr < gx ∧ b1 < gx ∧ b2 < gx by have := HP.out.prlo; have := HP.out.hi; have := HP.out.hB; omega)
        clear hrw hok hx
        go_upto_region 11 with (fail)
        refine wp_world (fun V => PlyR W pm b1 b2 pr pr k L M V ∧ Blk V gx 28 #[.int .i64 x.kind, .int .i64 x.a, .int .i64 x.b, .int .i64 x.c]) ⟨HP.out.keep (below_alloc _ _), Blk.newAt9 hgx⟩ ?_
        clear HP hgx c0 c1 c2 c3 q1 q2 q3
        rintro V ⟨hp, hbk⟩
        have HP := Lib.hid hp
        have HBK := Lib.hid hbk
        have g0 := hbk.cell 0
        clear hp hbk
        have HNN := Lib.hid HP.out.n
        go_upto_block 2 with (fail)
        go_cut [7, 8, 9, 10, 11, 12] (fun u7 _ _ _ _ _ wx => u7 = .bool true ∧ ∃ (L' : PL) (M' : WL), PlyR W pm b1 b2 pr pr (k + 1) L' M' wx ∧ Blk wx gx 28 #[.int .i64 x.kind, .int .i64 x.a, .int .i64 x.b, .int .i64 x.c])
        case first =>
          by_cases k0 : x.kind = 0
          · have dk : (x.kind == 0) = true := by simpa using k0
            obtain ⟨r, L', hlk⟩ : ∃ r L', linkP L x.a x.b = (r, L') := ⟨_, _, rfl⟩
            have HLN := Lib.hid (show L'.length ≤ k + 1 ∧ M.length ≤ k + 1 by have h9 := linkP_len (L := L) (a := x.a) (b := x.b); rw [hlk] at h9; have := HNN.out; simp only at h9; omega)
            have HLK := Lib.hid hlk
            clear hlk k0
            go_upto_region 14 with (fail)
            clear dk g0
            have HPD := Lib.hid (HP.out.keep (Below.refl _ _).drew)
            have HC1 := Lib.hid (link_w HPD.out.lk x.a x.b HOK.out.a HOK.out.b (by omega) HLK.out)
            refine wp_region_W 11 (fun U => Blk U gx 28 #[.int .i64 x.kind, .int .i64 x.a, .int .i64 x.b, .int .i64 x.c]) (by kernel_rfl) ?_ (fun hS0 => ?_)
            · exact HBK.out.keep (Below.refl _ _).drew
            (refine wpAnyW_take (i := 0) (v := ?_) rfl (by kernel_rfl) (by kernel_rfl) (by kernel_rfl) (by kernel_rfl) (fun _ _ _ h => h) (Or.inl ⟨by kernel_rfl, ?_⟩) (by assumption) ?_; rotate_left; focus (intro V9 hS9; have h1 := hS9.cell 1; have h2 := hS9.cell 2; go_simp; (try (with_reducible rfl)); done))
            try simp only [Act.put, List.getElem_toArray, List.getElem_cons_zero, List.setIfInBounds_toArray, List.set_cons_succ, List.set_cons_zero]
            (refine wpAnyW_take (i := 1) (v := ?_) rfl (by kernel_rfl) (by kernel_rfl) (by kernel_rfl) (by kernel_rfl) (fun _ _ _ h => h) (Or.inl ⟨by kernel_rfl, ?_⟩) (by assumption) ?_; rotate_left; focus (intro V9 hS9; have h1 := hS9.cell 1; have h2 := hS9.cell 2; go_simp; (try (with_reducible rfl)); done))
            try simp only [Act.put, List.getElem_toArray, List.getElem_cons_succ, List.getElem_cons_zero, List.setIfInBounds_toArray, List.set_cons_succ, List.set_cons_zero]
            (refine wpAnyW_take (i := 2) (v := ?_) rfl (by kernel_rfl) (by kernel_rfl) (by kernel_rfl) (by kernel_rfl) (fun _ _ _ h => h) (Or.inl ⟨by kernel_rfl, ?_⟩) (by assumption) ?_; rotate_left; focus (intro V9 hS9; have h1 := hS9.cell 1; have h2 := hS9.cell 2; go_simp; (try (with_reducible rfl)); done))
            try simp only [Act.put, List.getElem_toArray, List.getElem_cons_succ, List.getElem_cons_zero, List.setIfInBounds_toArray, List.set_cons_succ, List.set_cons_zero]
            (refine wpAnyW_take (i := 3) (v := ?_) rfl (by kernel_rfl) (by kernel_rfl) (by kernel_rfl) (by kernel_rfl) (fun _ _ _ h => h) (Or.inl ⟨by kernel_rfl, ?_⟩) (by assumption) ?_; rotate_left; focus (intro V9 hS9; have h1 := hS9.cell 1; have h2 := hS9.cell 2; go_simp; (try (with_reducible rfl)); done))
            try simp only [Act.put, List.getElem_toArray, List.getElem_cons_succ, List.getElem_cons_zero, List.setIfInBounds_toArray, List.set_cons_succ, List.set_cons_zero]
            (refine wpAnyW_take (i := 4) (v := ?_) rfl (by kernel_rfl) (by kernel_rfl) (by kernel_rfl) (by kernel_rfl) (fun _ _ _ h => h) (Or.inl ⟨by kernel_rfl, ?_⟩) (by assumption) ?_; rotate_left; focus (intro V9 hS9; have h1 := hS9.cell 1; have h2 := hS9.cell 2; go_simp; (try (with_reducible rfl)); done))
            try simp only [Act.put, List.getElem_toArray, List.getElem_cons_succ, List.getElem_cons_zero, List.setIfInBounds_toArray, List.set_cons_succ, List.set_cons_zero]
            (refine wpAnyW_take (i := 6) (v := ?_) rfl (by kernel_rfl) (by kernel_rfl) (by kernel_rfl) (by kernel_rfl) (fun _ _ _ h => h) (Or.inl ⟨by kernel_rfl, ?_⟩) (by assumption) ?_; rotate_left; focus (intro V9 hS9; have h1 := hS9.cell 1; have h2 := hS9.cell 2; go_simp; (try (with_reducible rfl)); done))
            try simp only [Act.put, List.getElem_toArray, List.getElem_cons_succ, List.getElem_cons_zero, List.setIfInBounds_toArray, List.set_cons_succ, List.set_cons_zero]
            (refine wpAnyW_take (i := 7) (v := ?_) rfl (by kernel_rfl) (by kernel_rfl) (by kernel_rfl) (by kernel_rfl) (fun _ _ _ h => h) (Or.inl ⟨by kernel_rfl, ?_⟩) (by assumption) ?_; rotate_left; focus (intro V9 hS9; have h1 := hS9.cell 1; have h2 := hS9.cell 2; go_simp; (try (with_reducible rfl)); done))
            try simp only [Act.put, List.getElem_toArray, List.getElem_cons_succ, List.getElem_cons_zero, List.setIfInBounds_toArray, List.set_cons_succ, List.set_cons_zero]
            (refine wpAnyW_take (i := 8) (v := ?_) rfl (by kernel_rfl) (by kernel_rfl) (by kernel_rfl) (by kernel_rfl) (fun _ _ _ h => h) (Or.inl ⟨by kernel_rfl, ?_⟩) (by assumption) ?_; rotate_left; focus (intro V9 hS9; have h1 := hS9.cell 1; have h2 := hS9.cell 2; go_simp; (try (with_reducible rfl)); done))
            try simp only [Act.put, List.getElem_toArray, List.getElem_cons_succ, List.getElem_cons_zero, List.setIfInBounds_toArray, List.set_cons_succ, List.set_cons_zero]
            (refine wpAnyW_take (i := 9) (v := ?_) rfl (by kernel_rfl) (by kernel_rfl) (by kernel_rfl) (by kernel_rfl) (fun _ _ _ h => h) (Or.inl ⟨by kernel_rfl, ?_⟩) (by assumption) ?_; rotate_left; focus (intro V9 hS9; have h1 := hS9.cell 1; have h2 := hS9.cell 2; go_simp; (try (with_reducible rfl)); done))
            try simp only [Act.put, List.getElem_toArray, List.getElem_cons_succ, List.getElem_cons_zero, List.setIfInBounds_toArray, List.set_cons_succ, List.set_cons_zero]
            (refine wpAnyW_take (i := 10) (v := ?_) rfl (by kernel_rfl) (by kernel_rfl) (by kernel_rfl) (by kernel_rfl) (fun _ _ _ h => h) (Or.inl ⟨by kernel_rfl, ?_⟩) (by assumption) ?_; rotate_left; focus (intro V9 hS9; have h1 := hS9.cell 1; have h2 := hS9.cell 2; go_simp; (try (with_reducible rfl)); done))
            try simp only [Act.put, List.getElem_toArray, List.getElem_cons_succ, List.getElem_cons_zero, List.setIfInBounds_toArray, List.set_cons_succ, List.set_cons_zero]
            refine wpAnyW_ready (rs := [5]) (by kernel_rfl) (by simp) ?_
            refine AllReadyW.cons rfl (fun K hK => ?_) AllReadyW.nil
            go_simp
            refine HC1.out.mono ?_
            rintro e1 U1 ⟨rfl, hu, hf⟩
            have HU1 := Lib.hid hu
            have HF1 := Lib.hid hf
            have HB1 := Lib.hid (hf.blk hS0 (by have := HGX.out; omega))
            obtain ⟨AP, cP, AW, cW, hrk⟩ := HPD.out.rk1 hf
            have HC2 := Lib.hid (rlink_w hrk HPD.out.lk.lk (Nat.le_trans HPD.out.hB hf.size) x.a x.b (by have := HLL.out; omega))
            rw [HLK.out] at HC2
            clear hu hf hrk HC1
            refine hK.out _ _ HB1.out (fun _ => ?_)
            clear hK K
            try simp only [Act.put, List.getElem_toArray, List.getElem_cons_succ, List.getElem_cons_zero, List.setIfInBounds_toArray, List.set_cons_succ, List.set_cons_zero]
            refine wpAnyW_ready (rs := [11]) (by kernel_rfl) (by simp) ?_
            refine AllReadyW.consE rfl (by kernel_rfl) (fun K hK => ?_) AllReadyW.nil
            go_simp
            refine HC2.out.mono ?_
            rintro e2 U2 ⟨rfl, AP2, cP2, AW2, cW2, hrk2, hf2⟩
            have HB2 := Lib.hid (hf2.blk HB1.out (by have := HGX.out; omega))
            have HN := Lib.hid (HPD.out.both HU1.out HF1.out ⟨_, _, _, _, hrk2⟩ hf2 (by omega) HLN.out.1 HLN.out.2)
            clear hrk2 hf2 HC2
            refine hK.out _ _ ?_
            clear hK K
            refine wpAnyW_ready (rs := [12]) (by kernel_rfl) (by simp) ?_
            refine AllReadyW.consE rfl (by kernel_rfl) (fun K hK => ?_) AllReadyW.nil
            go_simp
            refine hK.out _ _ ?_
            clear hK K
            try simp only [Act.put, List.getElem_toArray, List.getElem_cons_succ, List.getElem_cons_zero, List.setIfInBounds_toArray, List.set_cons_succ, List.set_cons_zero]
            refine wpAnyW_ready (rs := [13]) (by kernel_rfl) (by simp) ?_
            refine AllReadyW.consE rfl (by kernel_rfl) (fun K hK => ?_) AllReadyW.nil
            go_simp
            refine hK.out _ _ ?_
            clear hK K
            refine wpAnyW_done (by kernel_rfl) ?_ _
            go_wp2
            go_meet
            exact ⟨by simp, _, _, HN.out, HB2.out⟩
          have d0 : (x.kind == 0) = false := by simpa using k0
          clear k0
          by_cases k1 : x.kind = 1
          · have dk : (x.kind == 1) = true := by simpa using k1
            obtain ⟨r, L', hlk⟩ : ∃ r L', unlinkP L x.a x.b = (r, L') := ⟨_, _, rfl⟩
            have HLN := Lib.hid (show L'.length ≤ k + 1 ∧ M.length ≤ k + 1 by have h9 := unlinkP_len (L := L) (a := x.a) (b := x.b); rw [hlk] at h9; have := HNN.out; simp only at h9; omega)
            have HLK := Lib.hid hlk
            clear hlk k1
            go_upto_region 16 with (fail)
            clear d0
            clear dk g0
            have HPD := Lib.hid (HP.out.keep (Below.refl _ _).drew)
            have HC1 := Lib.hid (unlink_w HPD.out.lk x.a x.b HOK.out.a HOK.out.b HLK.out)
            refine wp_region_W 11 (fun U => Blk U gx 28 #[.int .i64 x.kind, .int .i64 x.a, .int .i64 x.b, .int .i64 x.c]) (by kernel_rfl) ?_ (fun hS0 => ?_)
            · exact HBK.out.keep (Below.refl _ _).drew
            (refine wpAnyW_take (i := 0) (v := ?_) rfl (by kernel_rfl) (by kernel_rfl) (by kernel_rfl) (by kernel_rfl) (fun _ _ _ h => h) (Or.inl ⟨by kernel_rfl, ?_⟩) (by assumption) ?_; rotate_left; focus (intro V9 hS9; have h1 := hS9.cell 1; have h2 := hS9.cell 2; go_simp; (try (with_reducible rfl)); done))
            try simp only [Act.put, List.getElem_toArray, List.getElem_cons_zero, List.setIfInBounds_toArray, List.set_cons_succ, List.set_cons_zero]
            (refine wpAnyW_take (i := 1) (v := ?_) rfl (by kernel_rfl) (by kernel_rfl) (by kernel_rfl) (by kernel_rfl) (fun _ _ _ h => h) (Or.inl ⟨by kernel_rfl, ?_⟩) (by assumption) ?_; rotate_left; focus (intro V9 hS9; have h1 := hS9.cell 1; have h2 := hS9.cell 2; go_simp; (try (with_reducible rfl)); done))
            try simp only [Act.put, List.getElem_toArray, List.getElem_cons_succ, List.getElem_cons_zero, List.setIfInBounds_toArray, List.set_cons_succ, List.set_cons_zero]
            (refine wpAnyW_take (i := 2) (v := ?_) rfl (by kernel_rfl) (by kernel_rfl) (by kernel_rfl) (by kernel_rfl) (fun _ _ _ h => h) (Or.inl ⟨by kernel_rfl, ?_⟩) (by assumption) ?_; rotate_left; focus (intro V9 hS9; have h1 := hS9.cell 1; have h2 := hS9.cell 2; go_simp; (try (with_reducible rfl)); done))
            try simp only [Act.put, List.getElem_toArray, List.getElem_cons_succ, List.getElem_cons_zero, List.setIfInBounds_toArray, List.set_cons_succ, List.set_cons_zero]
            (refine wpAnyW_take (i := 3) (v := ?_) rfl (by kernel_rfl) (by kernel_rfl) (by kernel_rfl) (by kernel_rfl) (fun _ _ _ h => h) (Or.inl ⟨by kernel_rfl, ?_⟩) (by assumption) ?_; rotate_left; focus (intro V9 hS9; have h1 := hS9.cell 1; have h2 := hS9.cell 2; go_simp; (try (with_reducible rfl)); done))
            try simp only [Act.put, List.getElem_toArray, List.getElem_cons_succ, List.getElem_cons_zero, List.setIfInBounds_toArray, List.set_cons_succ, List.set_cons_zero]
            (refine wpAnyW_take (i := 4) (v := ?_) rfl (by kernel_rfl) (by kernel_rfl) (by kernel_rfl) (by kernel_rfl) (fun _ _ _ h => h) (Or.inl ⟨by kernel_rfl, ?_⟩) (by assumption) ?_; rotate_left; focus (intro V9 hS9; have h1 := hS9.cell 1; have h2 := hS9.cell 2; go_simp; (try (with_reducible rfl)); done))
            try simp only [Act.put, List.getElem_toArray, List.getElem_cons_succ, List.getElem_cons_zero, List.setIfInBounds_toArray, List.set_cons_succ, List.set_cons_zero]
            (refine wpAnyW_take (i := 6) (v := ?_) rfl (by kernel_rfl) (by kernel_rfl) (by kernel_rfl) (by kernel_rfl) (fun _ _ _ h => h) (Or.inl ⟨by kernel_rfl, ?_⟩) (by assumption) ?_; rotate_left; focus (intro V9 hS9; have h1 := hS9.cell 1; have h2 := hS9.cell 2; go_simp; (try (with_reducible rfl)); done))
            try simp only [Act.put, List.getElem_toArray, List.getElem_cons_succ, List.getElem_cons_zero, List.setIfInBounds_toArray, List.set_cons_succ, List.set_cons_zero]
            (refine wpAnyW_take (i := 7) (v := ?_) rfl (by kernel_rfl) (by kernel_rfl) (by kernel_rfl) (by kernel_rfl) (fun _ _ _ h => h) (Or.inl ⟨by kernel_rfl, ?_⟩) (by assumption) ?_; rotate_left; focus (intro V9 hS9; have h1 := hS9.cell 1; have h2 := hS9.cell 2; go_simp; (try (with_reducible rfl)); done))
            try simp only [Act.put, List.getElem_toArray, List.getElem_cons_succ, List.getElem_cons_zero, List.setIfInBounds_toArray, List.set_cons_succ, List.set_cons_zero]
            (refine wpAnyW_take (i := 8) (v := ?_) rfl (by kernel_rfl) (by kernel_rfl) (by kernel_rfl) (by kernel_rfl) (fun _ _ _ h => h) (Or.inl ⟨by kernel_rfl, ?_⟩) (by assumption) ?_; rotate_left; focus (intro V9 hS9; have h1 := hS9.cell 1; have h2 := hS9.cell 2; go_simp; (try (with_reducible rfl)); done))
            try simp only [Act.put, List.getElem_toArray, List.getElem_cons_succ, List.getElem_cons_zero, List.setIfInBounds_toArray, List.set_cons_succ, List.set_cons_zero]
            (refine wpAnyW_take (i := 9) (v := ?_) rfl (by kernel_rfl) (by kernel_rfl) (by kernel_rfl) (by kernel_rfl) (fun _ _ _ h => h) (Or.inl ⟨by kernel_rfl, ?_⟩) (by assumption) ?_; rotate_left; focus (intro V9 hS9; have h1 := hS9.cell 1; have h2 := hS9.cell 2; go_simp; (try (with_reducible rfl)); done))
            try simp only [Act.put, List.getElem_toArray, List.getElem_cons_succ, List.getElem_cons_zero, List.setIfInBounds_toArray, List.set_cons_succ, List.set_cons_zero]
            (refine wpAnyW_take (i := 10) (v := ?_) rfl (by kernel_rfl) (by kernel_rfl) (by kernel_rfl) (by kernel_rfl) (fun _ _ _ h => h) (Or.inl ⟨by kernel_rfl, ?_⟩) (by assumption) ?_; rotate_left; focus (intro V9 hS9; have h1 := hS9.cell 1; have h2 := hS9.cell 2; go_simp; (try (with_reducible rfl)); done))
            try simp only [Act.put, List.getElem_toArray, List.getElem_cons_succ, List.getElem_cons_zero, List.setIfInBounds_toArray, List.set_cons_succ, List.set_cons_zero]
            refine wpAnyW_ready (rs := [5]) (by kernel_rfl) (by simp) ?_
            refine AllReadyW.cons rfl (fun K hK => ?_) AllReadyW.nil
            go_simp
            refine HC1.out.mono ?_
            rintro e1 U1 ⟨rfl, hu, hf⟩
            have HU1 := Lib.hid hu
            have HF1 := Lib.hid hf
            have HB1 := Lib.hid (hf.blk hS0 (by have := HGX.out; omega))
            obtain ⟨AP, cP, AW, cW, hrk⟩ := HPD.out.rk1 hf
            have HC2 := Lib.hid (runlink_w hrk HPD.out.lk.lk (Nat.le_trans HPD.out.hB hf.size) x.a x.b HOK.out.a HOK.out.b (by have := HLL.out; omega))
            rw [HLK.out] at HC2
            clear hu hf hrk HC1
            refine hK.out _ _ HB1.out (fun _ => ?_)
            clear hK K
            try simp only [Act.put, List.getElem_toArray, List.getElem_cons_succ, List.getElem_cons_zero, List.setIfInBounds_toArray, List.set_cons_succ, List.set_cons_zero]
            refine wpAnyW_ready (rs := [11]) (by kernel_rfl) (by simp) ?_
            refine AllReadyW.consE rfl (by kernel_rfl) (fun K hK => ?_) AllReadyW.nil
            go_simp
            refine HC2.out.mono ?_
            rintro e2 U2 ⟨rfl, AP2, cP2, AW2, cW2, hrk2, hf2⟩
            have HB2 := Lib.hid (hf2.blk HB1.out (by have := HGX.out; omega))
            have HN := Lib.hid (HPD.out.both HU1.out HF1.out ⟨_, _, _, _, hrk2⟩ hf2 (by omega) HLN.out.1 HLN.out.2)
            clear hrk2 hf2 HC2
            refine hK.out _ _ ?_
            clear hK K
            refine wpAnyW_ready (rs := [12]) (by kernel_rfl) (by simp) ?_
            refine AllReadyW.consE rfl (by kernel_rfl) (fun K hK => ?_) AllReadyW.nil
            go_simp
            refine hK.out _ _ ?_
            clear hK K
            try simp only [Act.put, List.getElem_toArray, List.getElem_cons_succ, List.getElem_cons_zero, List.setIfInBounds_toArray, List.set_cons_succ, List.set_cons_zero]
            refine wpAnyW_ready (rs := [13]) (by kernel_rfl) (by simp) ?_
            refine AllReadyW.consE rfl (by kernel_rfl) (fun K hK => ?_) AllReadyW.nil
            go_simp
            refine hK.out _ _ ?_
            clear hK K
            refine wpAnyW_done (by kernel_rfl) ?_ _
            go_wp2
            go_meet
            exact ⟨by simp, _, _, HN.out, HB2.out⟩
          have d1 : (x.kind == 1) = false := by simpa using k1
          clear k1
          by_cases k2 : x.kind = 2
          · have dk : (x.kind == 2) = true := by simpa using k2
            obtain ⟨r, M', hlk⟩ : ∃ r M', watchP M ⟨x.c, x.a, x.b⟩ = (r, M') := ⟨_, _, rfl⟩
            have HLN := Lib.hid (show L.length ≤ k + 1 ∧ M'.length ≤ k + 1 by have h9 := watchP_ref (K := M) (x := ⟨x.c, x.a, x.b⟩); rw [hlk] at h9; have := HNN.out; simp only at h9; omega)
            have HLK := Lib.hid hlk
            clear hlk k2
            have g1 := HBK.out.cell 1
            have g2 := HBK.out.cell 2
            have g3 := HBK.out.cell 3
            obtain ⟨gv, hgv⟩ : ∃ gv, V.heap.size = gv := ⟨_, rfl⟩
            have HGV := Lib.hid (show pr < gv ∧ b1 < gv ∧ b2 < gv by have := HP.out.prlo; have := HP.out.hi; have := HP.out.hB; omega)
            go_upto_region 19 with (fail)
            clear d0 d1 dk g0
            refine wp_world (fun U => PlyR W pm b1 b2 pr pr k L M U ∧ Blk U gx 28 #[.int .i64 x.kind, .int .i64 x.a, .int .i64 x.b, .int .i64 x.c] ∧ Blk U gv 33 #[.int .i64 x.c, .int .i64 x.a, .int .i64 x.b]) ⟨HP.out.keep (below_alloc _ _), HBK.out.keep (below_alloc _ _), Blk.newAt9 hgv⟩ ?_
            clear hgv g1 g2 g3
            rintro U0 ⟨hp0, hb0, hv0⟩
            have HPD := Lib.hid (hp0.keep (Below.refl _ _).drew)
            have HB0 := Lib.hid (hb0.keep (Below.refl _ _).drew)
            have HV0 := Lib.hid (hv0.keep (Below.refl _ _).drew)
            clear hp0 hb0 hv0
            have HC1 := Lib.hid (watch_w HPD.out.lk ⟨x.c, x.a, x.b⟩ ⟨HOK.out.c, HOK.out.a, HOK.out.b⟩ (by omega) HLK.out)
            simp only at HC1
            refine wp_region_W 6 (fun U => Blk U gv 33 #[.int .i64 x.c, .int .i64 x.a, .int .i64 x.b]) (by kernel_rfl) ?_ (fun hS0 => ?_)
            · exact HV0.out
            (refine wpAnyW_take (i := 0) (v := ?_) rfl (by kernel_rfl) (by kernel_rfl) (by kernel_rfl) (by kernel_rfl) (fun _ _ _ h => h) (Or.inl ⟨by kernel_rfl, ?_⟩) (by assumption) ?_; rotate_left; focus (intro V9 hS9; have h0 := hS9.cell 0; have h1 := hS9.cell 1; have h2 := hS9.cell 2; go_simp; (try (with_reducible rfl)); done))
            try simp only [Act.put, List.getElem_toArray, List.getElem_cons_zero, List.setIfInBounds_toArray, List.set_cons_succ, List.set_cons_zero]
            (refine wpAnyW_take (i := 1) (v := ?_) rfl (by kernel_rfl) (by kernel_rfl) (by kernel_rfl) (by kernel_rfl) (fun _ _ _ h => h) (Or.inl ⟨by kernel_rfl, ?_⟩) (by assumption) ?_; rotate_left; focus (intro V9 hS9; have h0 := hS9.cell 0; have h1 := hS9.cell 1; have h2 := hS9.cell 2; go_simp; (try (with_reducible rfl)); done))
            try simp only [Act.put, List.getElem_toArray, List.getElem_cons_succ, List.getElem_cons_zero, List.setIfInBounds_toArray, List.set_cons_succ, List.set_cons_zero]
            (refine wpAnyW_take (i := 4) (v := ?_) rfl (by kernel_rfl) (by kernel_rfl) (by kernel_rfl) (by kernel_rfl) (fun _ _ _ h => h) (Or.inl ⟨by kernel_rfl, ?_⟩) (by assumption) ?_; rotate_left; focus (intro V9 hS9; have h0 := hS9.cell 0; have h1 := hS9.cell 1; have h2 := hS9.cell 2; go_simp; (try (with_reducible rfl)); done))
            try simp only [Act.put, List.getElem_toArray, List.getElem_cons_succ, List.getElem_cons_zero, List.setIfInBounds_toArray, List.set_cons_succ, List.set_cons_zero]
            (refine wpAnyW_take (i := 5) (v := ?_) rfl (by kernel_rfl) (by kernel_rfl) (by kernel_rfl) (by kernel_rfl) (fun _ _ _ h => h) (Or.inl ⟨by kernel_rfl, ?_⟩) (by assumption) ?_; rotate_left; focus (intro V9 hS9; have h0 := hS9.cell 0; have h1 := hS9.cell 1; have h2 := hS9.cell 2; go_simp; (try (with_reducible rfl)); done))
            try simp only [Act.put, List.getElem_toArray, List.getElem_cons_succ, List.getElem_cons_zero, List.setIfInBounds_toArray, List.set_cons_succ, List.set_cons_zero]
            refine wpAnyW_ready (rs := [2]) (by kernel_rfl) (by simp) ?_
            refine AllReadyW.cons rfl (fun K hK => ?_) AllReadyW.nil
            go_simp
            refine HC1.out.mono ?_
            rintro e1 U1 ⟨rfl, hu, hf⟩
            have HU1 := Lib.hid hu
            have HF1 := Lib.hid hf
            have HB1 := Lib.hid (hf.blk HB0.out (by have := HGX.out; omega))
            have HV1 := Lib.hid (hf.blk hS0 (by have := HGV.out; omega))
            obtain ⟨AP, cP, AW, cW, hrk⟩ := HPD.out.rk1 hf
            have HC2 := Lib.hid (rwatch_w hrk HPD.out.lk.lk (Nat.le_trans HPD.out.hB hf.size) ⟨x.c, x.a, x.b⟩ (by have := HLL.out; omega))
            rw [HLK.out] at HC2
            simp only at HC2
            clear hu hf hrk HC1
            refine hK.out _ _ HV1.out (fun _ => ?_)
            clear hK K
            try simp only [Act.put, List.getElem_toArray, List.getElem_cons_succ, List.getElem_cons_zero, List.setIfInBounds_toArray, List.set_cons_succ, List.set_cons_zero]
            refine wpAnyW_ready (rs := [3]) (by kernel_rfl) (by simp) ?_
            refine AllReadyW.cons rfl (fun K hK => ?_) AllReadyW.nil
            go_simp
            refine (lnum_v _ _).mono ?_
            rintro e3 U3 ⟨rfl, rfl⟩
            refine hK.out _ _ HV1.out (fun _ => ?_)
            clear hK K
            try simp only [Act.put, List.getElem_toArray, List.getElem_cons_succ, List.getElem_cons_zero, List.setIfInBounds_toArray, List.set_cons_succ, List.set_cons_zero]
            refine wpAnyW_ready (rs := [6]) (by kernel_rfl) (by simp) ?_
            refine AllReadyW.consE rfl (by kernel_rfl) (fun K hK => ?_) AllReadyW.nil
            go_simp
            refine HC2.out.mono ?_
            rintro e2 U2 ⟨rfl, AP2, cP2, AW2, cW2, hrk2, hf2⟩
            have HB2 := Lib.hid (hf2.blk HB1.out (by have := HGX.out; omega))
            have HN := Lib.hid (HPD.out.both HU1.out HF1.out ⟨_, _, _, _, hrk2⟩ hf2 (by omega) HLN.out.1 HLN.out.2)
            clear hrk2 hf2 HC2
            refine hK.out _ _ ?_
            clear hK K
            try simp only [Act.put, List.getElem_toArray, List.getElem_cons_succ, List.getElem_cons_zero, List.setIfInBounds_toArray, List.set_cons_succ, List.set_cons_zero]
            refine wpAnyW_ready (rs := [7]) (by kernel_rfl) (by simp) ?_
            refine AllReadyW.consE rfl (by kernel_rfl) (fun K hK => ?_) AllReadyW.nil
            go_simp
            refine hK.out _ _ ?_
            clear hK K
            try simp only [Act.put, List.getElem_toArray, List.getElem_cons_succ, List.getElem_cons_zero, List.setIfInBounds_toArray, List.set_cons_succ, List.set_cons_zero]
            refine wpAnyW_ready (rs := [8]) (by kernel_rfl) (by simp) ?_
            refine AllReadyW.consE rfl (by kernel_rfl) (fun K hK => ?_) AllReadyW.nil
            go_simp
            refine hK.out _ _ ?_
            clear hK K
            refine wpAnyW_done (by kernel_rfl) ?_ _
            go_wp2
            go_meet
            exact ⟨by simp, _, _, HN.out, HB2.out⟩
          have d2 : (x.kind == 2) = false := by simpa using k2
          clear k2
          by_cases k3 : x.kind = 3
          · have dk : (x.kind == 3) = true := by simpa using k3
            obtain ⟨r, M', hlk⟩ : ∃ r M', unwatchP M x.c x.a = (r, M') := ⟨_, _, rfl⟩
            have HLN := Lib.hid (show L.length ≤ k + 1 ∧ M'.length ≤ k + 1 by have h9 := unwatchP_len (K := M) (r := x.c) (f := x.a); rw [hlk] at h9; have := HNN.out; simp only at h9; omega)
            have HLK := Lib.hid hlk
            clear hlk k3
            go_upto_region 21 with (fail)
            clear d0 d1 d2
            clear dk g0
            have HPD := Lib.hid (HP.out.keep (Below.refl _ _).drew)
            have HC1 := Lib.hid (unwatch_w HPD.out.lk x.c x.a HOK.out.c HLK.out)
            refine wp_region_W 11 (fun U => Blk U gx 28 #[.int .i64 x.kind, .int .i64 x.a, .int .i64 x.b, .int .i64 x.c]) (by kernel_rfl) ?_ (fun hS0 => ?_)
            · exact HBK.out.keep (Below.refl _ _).drew
            (refine wpAnyW_take (i := 0) (v := ?_) rfl (by kernel_rfl) (by kernel_rfl) (by kernel_rfl) (by kernel_rfl) (fun _ _ _ h => h) (Or.inl ⟨by kernel_rfl, ?_⟩) (by assumption) ?_; rotate_left; focus (intro V9 hS9; have h3 := hS9.cell 3; have h1 := hS9.cell 1; go_simp; (try (with_reducible rfl)); done))
            try simp only [Act.put, List.getElem_toArray, List.getElem_cons_zero, List.setIfInBounds_toArray, List.set_cons_succ, List.set_cons_zero]
            (refine wpAnyW_take (i := 1) (v := ?_) rfl (by kernel_rfl) (by kernel_rfl) (by kernel_rfl) (by kernel_rfl) (fun _ _ _ h => h) (Or.inl ⟨by kernel_rfl, ?_⟩) (by assumption) ?_; rotate_left; focus (intro V9 hS9; have h3 := hS9.cell 3; have h1 := hS9.cell 1; go_simp; (try (with_reducible rfl)); done))
            try simp only [Act.put, List.getElem_toArray, List.getElem_cons_succ, List.getElem_cons_zero, List.setIfInBounds_toArray, List.set_cons_succ, List.set_cons_zero]
            (refine wpAnyW_take (i := 2) (v := ?_) rfl (by kernel_rfl) (by kernel_rfl) (by kernel_rfl) (by kernel_rfl) (fun _ _ _ h => h) (Or.inl ⟨by kernel_rfl, ?_⟩) (by assumption) ?_; rotate_left; focus (intro V9 hS9; have h3 := hS9.cell 3; have h1 := hS9.cell 1; go_simp; (try (with_reducible rfl)); done))
            try simp only [Act.put, List.getElem_toArray, List.getElem_cons_succ, List.getElem_cons_zero, List.setIfInBounds_toArray, List.set_cons_succ, List.set_cons_zero]
            (refine wpAnyW_take (i := 3) (v := ?_) rfl (by kernel_rfl) (by kernel_rfl) (by kernel_rfl) (by kernel_rfl) (fun _ _ _ h => h) (Or.inl ⟨by kernel_rfl, ?_⟩) (by assumption) ?_; rotate_left; focus (intro V9 hS9; have h3 := hS9.cell 3; have h1 := hS9.cell 1; go_simp; (try (with_reducible rfl)); done))
            try simp only [Act.put, List.getElem_toArray, List.getElem_cons_succ, List.getElem_cons_zero, List.setIfInBounds_toArray, List.set_cons_succ, List.set_cons_zero]
            (refine wpAnyW_take (i := 4) (v := ?_) rfl (by kernel_rfl) (by kernel_rfl) (by kernel_rfl) (by kernel_rfl) (fun _ _ _ h => h) (Or.inl ⟨by kernel_rfl, ?_⟩) (by assumption) ?_; rotate_left; focus (intro V9 hS9; have h3 := hS9.cell 3; have h1 := hS9.cell 1; go_simp; (try (with_reducible rfl)); done))
            try simp only [Act.put, List.getElem_toArray, List.getElem_cons_succ, List.getElem_cons_zero, List.setIfInBounds_toArray, List.set_cons_succ, List.set_cons_zero]
            (refine wpAnyW_take (i := 6) (v := ?_) rfl (by kernel_rfl) (by kernel_rfl) (by kernel_rfl) (by kernel_rfl) (fun _ _ _ h => h) (Or.inl ⟨by kernel_rfl, ?_⟩) (by assumption) ?_; rotate_left; focus (intro V9 hS9; have h3 := hS9.cell 3; have h1 := hS9.cell 1; go_simp; (try (with_reducible rfl)); done))
            try simp only [Act.put, List.getElem_toArray, List.getElem_cons_succ, List.getElem_cons_zero, List.setIfInBounds_toArray, List.set_cons_succ, List.set_cons_zero]
            (refine wpAnyW_take (i := 7) (v := ?_) rfl (by kernel_rfl) (by kernel_rfl) (by kernel_rfl) (by kernel_rfl) (fun _ _ _ h => h) (Or.inl ⟨by kernel_rfl, ?_⟩) (by assumption) ?_; rotate_left; focus (intro V9 hS9; have h3 := hS9.cell 3; have h1 := hS9.cell 1; go_simp; (try (with_reducible rfl)); done))
            try simp only [Act.put, List.getElem_toArray, List.getElem_cons_succ, List.getElem_cons_zero, List.setIfInBounds_toArray, List.set_cons_succ, List.set_cons_zero]
            (refine wpAnyW_take (i := 8) (v := ?_) rfl (by kernel_rfl) (by kernel_rfl) (by kernel_rfl) (by kernel_rfl) (fun _ _ _ h => h) (Or.inl ⟨by kernel_rfl, ?_⟩) (by assumption) ?_; rotate_left; focus (intro V9 hS9; have h3 := hS9.cell 3; have h1 := hS9.cell 1; go_simp; (try (with_reducible rfl)); done))
            try simp only [Act.put, List.getElem_toArray, List.getElem_cons_succ, List.getElem_cons_zero, List.setIfInBounds_toArray, List.set_cons_succ, List.set_cons_zero]
            (refine wpAnyW_take (i := 9) (v := ?_) rfl (by kernel_rfl) (by kernel_rfl) (by kernel_rfl) (by kernel_rfl) (fun _ _ _ h => h) (Or.inl ⟨by kernel_rfl, ?_⟩) (by assumption) ?_; rotate_left; focus (intro V9 hS9; have h3 := hS9.cell 3; have h1 := hS9.cell 1; go_simp; (try (with_reducible rfl)); done))
            try simp only [Act.put, List.getElem_toArray, List.getElem_cons_succ, List.getElem_cons_zero, List.setIfInBounds_toArray, List.set_cons_succ, List.set_cons_zero]
            (refine wpAnyW_take (i := 10) (v := ?_) rfl (by kernel_rfl) (by kernel_rfl) (by kernel_rfl) (by kernel_rfl) (fun _ _ _ h => h) (Or.inl ⟨by kernel_rfl, ?_⟩) (by assumption) ?_; rotate_left; focus (intro V9 hS9; have h3 := hS9.cell 3; have h1 := hS9.cell 1; go_simp; (try (with_reducible rfl)); done))
            try simp only [Act.put, List.getElem_toArray, List.getElem_cons_succ, List.getElem_cons_zero, List.setIfInBounds_toArray, List.set_cons_succ, List.set_cons_zero]
            refine wpAnyW_ready (rs := [5]) (by kernel_rfl) (by simp) ?_
            refine AllReadyW.cons rfl (fun K hK => ?_) AllReadyW.nil
            go_simp
            refine HC1.out.mono ?_
            rintro e1 U1 ⟨rfl, hu, hf⟩
            have HU1 := Lib.hid hu
            have HF1 := Lib.hid hf
            have HB1 := Lib.hid (hf.blk hS0 (by have := HGX.out; omega))
            obtain ⟨AP, cP, AW, cW, hrk⟩ := HPD.out.rk1 hf
            have HC2 := Lib.hid (runwatch_w hrk HPD.out.lk.lk (Nat.le_trans HPD.out.hB hf.size) x.c x.a (by have := HLL.out; omega))
            rw [HLK.out] at HC2
            clear hu hf hrk HC1
            refine hK.out _ _ HB1.out (fun _ => ?_)
            clear hK K
            try simp only [Act.put, List.getElem_toArray, List.getElem_cons_succ, List.getElem_cons_zero, List.setIfInBounds_toArray, List.set_cons_succ, List.set_cons_zero]
            refine wpAnyW_ready (rs := [11]) (by kernel_rfl) (by simp) ?_
            refine AllReadyW.consE rfl (by kernel_rfl) (fun K hK => ?_) AllReadyW.nil
            go_simp
            refine HC2.out.mono ?_
            rintro e2 U2 ⟨rfl, AP2, cP2, AW2, cW2, hrk2, hf2⟩
            have HB2 := Lib.hid (hf2.blk HB1.out (by have := HGX.out; omega))
            have HN := Lib.hid (HPD.out.both HU1.out HF1.out ⟨_, _, _, _, hrk2⟩ hf2 (by omega) HLN.out.1 HLN.out.2)
            clear hrk2 hf2 HC2
            refine hK.out _ _ ?_
            clear hK K
            refine wpAnyW_ready (rs := [12]) (by kernel_rfl) (by simp) ?_
            refine AllReadyW.consE rfl (by kernel_rfl) (fun K hK => ?_) AllReadyW.nil
            go_simp
            refine hK.out _ _ ?_
            clear hK K
            try simp only [Act.put, List.getElem_toArray, List.getElem_cons_succ, List.getElem_cons_zero, List.setIfInBounds_toArray, List.set_cons_succ, List.set_cons_zero]
            refine wpAnyW_ready (rs := [13]) (by kernel_rfl) (by simp) ?_
            refine AllReadyW.consE rfl (by kernel_rfl) (fun K hK => ?_) AllReadyW.nil
            go_simp
            refine hK.out _ _ ?_
            clear hK K
            refine wpAnyW_done (by kernel_rfl) ?_ _
            go_wp2
            go_meet
            exact ⟨by simp, _, _, HN.out, HB2.out⟩
          have d3 : (x.kind == 3) = false := by simpa using k3
          clear k3
          by_cases k4 : x.kind = 4
          · have dk : (x.kind == 4) = true := by simpa using k4
            clear k4
            have HC1 := Lib.hid (drop_w HP.out.lk x.a HOK.out.a (by have := HLL.out; omega) (by have := HLL.out; omega))
            have g1 := HBK.out.cell 1
            go_upto_region 24 with (go_at_call 12; refine HC1.out.mono ?_; rintro e1 U1 ⟨v1, v2, rfl, hr1, hw1, hu1, hf1⟩; have HR1 := Lib.hid hr1; have HW1 := Lib.hid hw1; have HU1 := Lib.hid hu1; have HF1 := Lib.hid hf1; clear hr1 hw1 hu1 hf1)
            clear d0 d1 d2 d3 dk g0 g1 HC1
            have HB1 := Lib.hid (HF1.out.blk HBK.out (by have := HGX.out; omega))
            have HC2 : Hid (Calls Try.prog 25 #[.pointer (some ⟨pr, 0, none⟩), .int .i64 x.a] U1 (RDEnds U1 pr pr L M x.a)) := by
              obtain ⟨AP, cP, AW, cW, hrk⟩ := HP.out.rk1 HF1.out
              exact rdrop_v hrk HP.out.lk.lk (Nat.le_trans HP.out.hB HF1.out.size) x.a HOK.out.a (by have := HLL.out; omega) (by have := HLL.out; omega)
            have g1 := HB1.out.cell 1
            go_upto_region 25 with (go_at_call 25; refine HC2.out.mono ?_; rintro e2 U2 ⟨v3, v4, rfl, hr2, hw2, hk2, hf2⟩; have HR2 := Lib.hid hr2; have HW2 := Lib.hid hw2; have HK2 := Lib.hid hk2; have HF2 := Lib.hid hf2; clear hr2 hw2 hk2 hf2)
            clear g1 HC2
            have HB2 := Lib.hid (HF2.out.blk HB1.out (by have := HGX.out; omega))
            have HN := Lib.hid (HP.out.both HU1.out HF1.out HK2.out HF2.out (by omega) (Nat.le_trans (List.length_filter_le _ _) (by have := HNN.out; omega)) (Nat.le_trans (List.length_filter_le _ _) (by have := HNN.out; omega)))
            have hl1 : (ofP L x.a).length ≤ 1000000 := Nat.le_trans ofP_len (by have := HLL.out; omega)
            have hl2 : (toldP x.a (wsP M)).length ≤ 1000000 := Nat.le_trans (List.length_filter_le _ _) (by rw [(wsP_perm M).length_eq]; have := HLL.out; omega)
            have HR12 := Lib.hid (own_fr9 HR1.out HF2.out (fun g hg hF => by have h9 := (World.ownsRow.lt HR1.out g hg).1; have := HP.out.prlo; omega))
            have HW12 := Lib.hid (own_fr9 HW1.out HF2.out (fun g hg hF => by have h9 := (World.ownsRow.lt HW1.out g hg).1; have := HP.out.prlo; omega))
            have HNU := Lib.hid (numbers_v ⟨_, HR12.out⟩ ⟨_, HR2.out⟩ hl1 hl1)
            rw [show decide (ofP L x.a = ofP L x.a) = true from decide_eq_true rfl] at HNU
            go_wp2_with (first
              | (go_at_call 16; refine HNU.out.mono ?_; rintro e3 U3 ⟨rfl, hb3⟩; have HB3 := Lib.hid hb3; have HWA := Lib.hid (rwatches_v ⟨_, own_bel HW12.out hb3⟩ ⟨_, own_bel HW2.out hb3⟩ hl2 hl2); rw [show decide (toldP x.a (wsP M) = toldP x.a (wsP M)) = true from decide_eq_true rfl] at HWA; clear hb3)
              | (go_at_call 20; refine HWA.out.mono ?_; rintro e4 U4 ⟨rfl, hb4⟩; have HB4 := Lib.hid (HB3.out.trans (hb4.mono HB3.out.size)); clear hb4))
            go_meet
            exact ⟨rfl, _, _, HN.out.keep HB4.out, HB2.out.keep HB4.out⟩
          have d4 : (x.kind == 4) = false := by simpa using k4
          clear k4
          go_wp2
          go_meet
          exact ⟨rfl, _, _, HP.out.both HP.out.lk (Fr.refl _ _) HP.out.rk (Fr.refl _ _) (by omega) (by have := HNN.out; omega) (by have := HNN.out; omega), HBK.out⟩
        case rest =>
          obtain ⟨rfl, L', M', hp, hbk⟩ := hcut
          clear HP HBK HNN HLL g0
          have HP := Lib.hid hp
          have HBK := Lib.hid hbk
          have HLL := Lib.hid (show L'.length ≤ 151 ∧ M'.length ≤ 151 by have := hp.n; omega)
          obtain ⟨AP, cP, AW, cW, hrk⟩ := hp.rk
          have HRK := Lib.hid hrk
          have HOFI := Lib.hid (fun V (h : Below wc.heap.size wc V) a => of_v (hp.keep h).lk a (by have := HLL.out; omega))
          have HOFR := Lib.hid (fun V (h : Below wc.heap.size wc V) a => rof_w (hrk.keep h) hp.lk.lk a (by have := HLL.out; omega))
          have HOL : Hid (∀ a, (ofP L' a).length ≤ 1000000) := fun a => Nat.le_trans ofP_len (by have := HLL.out; omega)
          have HWT := Lib.hid (fun V (h : Below wc.heap.size wc V) => watches_w (hp.keep h).lk (by have := HLL.out; omega))
          have HWL : Hid ((wsP M').length ≤ 1000000) := by rw [(wsP_perm M').length_eq]; have := HLL.out; exact (by omega : M'.length ≤ 1000000)
          have HPS := Lib.hid (fun V (h : Below wc.heap.size wc V) => lpairs_v (hp.keep h).lk (hrk.keep h) (by have := HLL.out; omega))
          clear hp hbk hrk
          go_upto_region 26 with (fail)
          refine wp_region_W 41 (fun U => Below wc.heap.size wc U) (by kernel_rfl) ?_ (fun hS0 => ?_)
          · exact (Below.refl _ _).drew
          have HS0 := Lib.hid hS0
          clear hS0
          have hS0 := HS0.out
          (refine wpAnyW_take (i := 0) (v := ?_) rfl (by kernel_rfl) (by kernel_rfl) (by kernel_rfl) (by kernel_rfl) (fun _ _ _ h => h) (Or.inl ⟨by kernel_rfl, ?_⟩) (by assumption) ?_; rotate_left; focus (intro V9 hS9; go_simp; (try (with_reducible rfl)); done))
          try simp only [Act.put, List.getElem_toArray, List.getElem_cons_zero, List.setIfInBounds_toArray, List.set_cons_succ, List.set_cons_zero]
          (refine wpAnyW_take (i := 1) (v := ?_) rfl (by kernel_rfl) (by kernel_rfl) (by kernel_rfl) (by kernel_rfl) (fun _ _ _ h => h) (Or.inl ⟨by kernel_rfl, ?_⟩) (by assumption) ?_; rotate_left; focus (intro V9 hS9; go_simp; (try (with_reducible rfl)); done))
          try simp only [Act.put, List.getElem_toArray, List.getElem_cons_succ, List.getElem_cons_zero, List.setIfInBounds_toArray, List.set_cons_succ, List.set_cons_zero]
          (refine wpAnyW_take (i := 2) (v := ?_) rfl (by kernel_rfl) (by kernel_rfl) (by kernel_rfl) (by kernel_rfl) (fun _ _ _ h => h) (Or.inl ⟨by kernel_rfl, ?_⟩) (by assumption) ?_; rotate_left; focus (intro V9 hS9; go_simp; (try (with_reducible rfl)); done))
          try simp only [Act.put, List.getElem_toArray, List.getElem_cons_succ, List.getElem_cons_zero, List.setIfInBounds_toArray, List.set_cons_succ, List.set_cons_zero]
          (refine wpAnyW_take (i := 3) (v := ?_) rfl (by kernel_rfl) (by kernel_rfl) (by kernel_rfl) (by kernel_rfl) (fun _ _ _ h => h) (Or.inl ⟨by kernel_rfl, ?_⟩) (by assumption) ?_; rotate_left; focus (intro V9 hS9; go_simp; (try (with_reducible rfl)); done))
          try simp only [Act.put, List.getElem_toArray, List.getElem_cons_succ, List.getElem_cons_zero, List.setIfInBounds_toArray, List.set_cons_succ, List.set_cons_zero]
          (refine wpAnyW_take (i := 4) (v := ?_) rfl (by kernel_rfl) (by kernel_rfl) (by kernel_rfl) (by kernel_rfl) (fun _ _ _ h => h) (Or.inl ⟨by kernel_rfl, ?_⟩) (by assumption) ?_; rotate_left; focus (intro V9 hS9; go_simp; (try (with_reducible rfl)); done))
          try simp only [Act.put, List.getElem_toArray, List.getElem_cons_succ, List.getElem_cons_zero, List.setIfInBounds_toArray, List.set_cons_succ, List.set_cons_zero]
          (refine wpAnyW_take (i := 5) (v := ?_) rfl (by kernel_rfl) (by kernel_rfl) (by kernel_rfl) (by kernel_rfl) (fun _ _ _ h => h) (Or.inl ⟨by kernel_rfl, ?_⟩) (by assumption) ?_; rotate_left; focus (intro V9 hS9; have g1 := (HBK.out.keep hS9).cell 1; go_simp; (try (with_reducible rfl)); done))
          try simp only [Act.put, List.getElem_toArray, List.getElem_cons_succ, List.getElem_cons_zero, List.setIfInBounds_toArray, List.set_cons_succ, List.set_cons_zero]
          (refine wpAnyW_take (i := 7) (v := ?_) rfl (by kernel_rfl) (by kernel_rfl) (by kernel_rfl) (by kernel_rfl) (fun _ _ _ h => h) (Or.inl ⟨by kernel_rfl, ?_⟩) (by assumption) ?_; rotate_left; focus (intro V9 hS9; go_simp; (try (with_reducible rfl)); done))
          try simp only [Act.put, List.getElem_toArray, List.getElem_cons_succ, List.getElem_cons_zero, List.setIfInBounds_toArray, List.set_cons_succ, List.set_cons_zero]
          (refine wpAnyW_take (i := 8) (v := ?_) rfl (by kernel_rfl) (by kernel_rfl) (by kernel_rfl) (by kernel_rfl) (fun _ _ _ h => h) (Or.inl ⟨by kernel_rfl, ?_⟩) (by assumption) ?_; rotate_left; focus (intro V9 hS9; go_simp; (try (with_reducible rfl)); done))
          try simp only [Act.put, List.getElem_toArray, List.getElem_cons_succ, List.getElem_cons_zero, List.setIfInBounds_toArray, List.set_cons_succ, List.set_cons_zero]
          (refine wpAnyW_take (i := 9) (v := ?_) rfl (by kernel_rfl) (by kernel_rfl) (by kernel_rfl) (by kernel_rfl) (fun _ _ _ h => h) (Or.inl ⟨by kernel_rfl, ?_⟩) (by assumption) ?_; rotate_left; focus (intro V9 hS9; have g1 := (HBK.out.keep hS9).cell 1; go_simp; (try (with_reducible rfl)); done))
          try simp only [Act.put, List.getElem_toArray, List.getElem_cons_succ, List.getElem_cons_zero, List.setIfInBounds_toArray, List.set_cons_succ, List.set_cons_zero]
          refine wpAnyW_ready (rs := [6]) (by kernel_rfl) (by simp) ?_
          refine AllReadyW.cons rfl (fun K hK => ?_) AllReadyW.nil
          go_simp
          refine (HOFI.out _ HS0.out x.a).mono ?_
          rintro e1 U1 ⟨va0, rfl, hr1, hb1⟩
          have HS1 := Lib.hid (HS0.out.trans (hb1.mono HS0.out.size))
          have HR1 := Lib.hid hr1
          clear hr1 hb1
          refine hK.out _ _ HS1.out (fun _ => ?_)
          clear hK K
          try simp only [Act.put, List.getElem_toArray, List.getElem_cons_succ, List.getElem_cons_zero, List.setIfInBounds_toArray, List.set_cons_succ, List.set_cons_zero]
          refine wpAnyW_ready (rs := [10]) (by kernel_rfl) (by simp) ?_
          refine AllReadyW.cons rfl (fun K hK => ?_) AllReadyW.nil
          go_simp
          refine (HOFR.out _ HS1.out x.a).mono ?_
          rintro e1 U2 ⟨vb0, rfl, hr2, hb2⟩
          have HS2 := Lib.hid (HS1.out.trans (hb2.mono HS1.out.size))
          have HN0 := Lib.hid (numbers_v ⟨_, own_bel HR1.out hb2⟩ ⟨_, hr2⟩ (HOL.out _) (HOL.out _))
          rw [show decide (ofP L' x.a = ofP L' x.a) = true from decide_eq_true rfl] at HN0
          clear hr2 hb2
          refine hK.out _ _ HS2.out (fun _ => ?_)
          clear hK K
          try simp only [Act.put, List.getElem_toArray, List.getElem_cons_succ, List.getElem_cons_zero, List.setIfInBounds_toArray, List.set_cons_succ, List.set_cons_zero]
          refine wpAnyW_ready (rs := [11]) (by kernel_rfl) (by simp) ?_
          refine AllReadyW.cons rfl (fun K hK => ?_) AllReadyW.nil
          go_simp
          refine HN0.out.mono ?_
          rintro e1 U3 ⟨rfl, hb3⟩
          have HS3 := Lib.hid (HS2.out.trans (hb3.mono HS2.out.size))
          clear hb3 HS0 HS1 HS2 HN0 HR1
          refine hK.out _ _ HS3.out (fun _ => ?_)
          clear hK K
          try simp only [Act.put, List.getElem_toArray, List.getElem_cons_succ, List.getElem_cons_zero, List.setIfInBounds_toArray, List.set_cons_succ, List.set_cons_zero]
          have hS3 := HS3.out
          (refine wpAnyW_take (i := 12) (v := ?_) rfl (by kernel_rfl) (by kernel_rfl) (by kernel_rfl) (by kernel_rfl) (fun _ _ _ h => h) (Or.inl ⟨by kernel_rfl, ?_⟩) (by assumption) ?_; rotate_left; focus (intro V9 hS9; go_simp; (try (with_reducible rfl)); done))
          try simp only [Act.put, List.getElem_toArray, List.getElem_cons_succ, List.getElem_cons_zero, List.setIfInBounds_toArray, List.set_cons_succ, List.set_cons_zero]
          (refine wpAnyW_take (i := 13) (v := ?_) rfl (by kernel_rfl) (by kernel_rfl) (by kernel_rfl) (by kernel_rfl) (fun _ _ _ h => h) (Or.inl ⟨by kernel_rfl, ?_⟩) (by assumption) ?_; rotate_left; focus (intro V9 hS9; go_simp; (try (with_reducible rfl)); done))
          try simp only [Act.put, List.getElem_toArray, List.getElem_cons_succ, List.getElem_cons_zero, List.setIfInBounds_toArray, List.set_cons_succ, List.set_cons_zero]
          (refine wpAnyW_take (i := 14) (v := ?_) rfl (by kernel_rfl) (by kernel_rfl) (by kernel_rfl) (by kernel_rfl) (fun _ _ _ h => h) (Or.inl ⟨by kernel_rfl, ?_⟩) (by assumption) ?_; rotate_left; focus (intro V9 hS9; go_simp; (try (with_reducible rfl)); done))
          try simp only [Act.put, List.getElem_toArray, List.getElem_cons_succ, List.getElem_cons_zero, List.setIfInBounds_toArray, List.set_cons_succ, List.set_cons_zero]
          (refine wpAnyW_take (i := 15) (v := ?_) rfl (by kernel_rfl) (by kernel_rfl) (by kernel_rfl) (by kernel_rfl) (fun _ _ _ h => h) (Or.inl ⟨by kernel_rfl, ?_⟩) (by assumption) ?_; rotate_left; focus (intro V9 hS9; go_simp; (try (with_reducible rfl)); done))
          try simp only [Act.put, List.getElem_toArray, List.getElem_cons_succ, List.getElem_cons_zero, List.setIfInBounds_toArray, List.set_cons_succ, List.set_cons_zero]
          (refine wpAnyW_take (i := 16) (v := ?_) rfl (by kernel_rfl) (by kernel_rfl) (by kernel_rfl) (by kernel_rfl) (fun _ _ _ h => h) (Or.inl ⟨by kernel_rfl, ?_⟩) (by assumption) ?_; rotate_left; focus (intro V9 hS9; go_simp; (try (with_reducible rfl)); done))
          try simp only [Act.put, List.getElem_toArray, List.getElem_cons_succ, List.getElem_cons_zero, List.setIfInBounds_toArray, List.set_cons_succ, List.set_cons_zero]
          (refine wpAnyW_take (i := 17) (v := ?_) rfl (by kernel_rfl) (by kernel_rfl) (by kernel_rfl) (by kernel_rfl) (fun _ _ _ h => h) (Or.inl ⟨by kernel_rfl, ?_⟩) (by assumption) ?_; rotate_left; focus (intro V9 hS9; have g2 := (HBK.out.keep hS9).cell 2; go_simp; (try (with_reducible rfl)); done))
          try simp only [Act.put, List.getElem_toArray, List.getElem_cons_succ, List.getElem_cons_zero, List.setIfInBounds_toArray, List.set_cons_succ, List.set_cons_zero]
          (refine wpAnyW_take (i := 19) (v := ?_) rfl (by kernel_rfl) (by kernel_rfl) (by kernel_rfl) (by kernel_rfl) (fun _ _ _ h => h) (Or.inl ⟨by kernel_rfl, ?_⟩) (by assumption) ?_; rotate_left; focus (intro V9 hS9; go_simp; (try (with_reducible rfl)); done))
          try simp only [Act.put, List.getElem_toArray, List.getElem_cons_succ, List.getElem_cons_zero, List.setIfInBounds_toArray, List.set_cons_succ, List.set_cons_zero]
          (refine wpAnyW_take (i := 20) (v := ?_) rfl (by kernel_rfl) (by kernel_rfl) (by kernel_rfl) (by kernel_rfl) (fun _ _ _ h => h) (Or.inl ⟨by kernel_rfl, ?_⟩) (by assumption) ?_; rotate_left; focus (intro V9 hS9; go_simp; (try (with_reducible rfl)); done))
          try simp only [Act.put, List.getElem_toArray, List.getElem_cons_succ, List.getElem_cons_zero, List.setIfInBounds_toArray, List.set_cons_succ, List.set_cons_zero]
          (refine wpAnyW_take (i := 21) (v := ?_) rfl (by kernel_rfl) (by kernel_rfl) (by kernel_rfl) (by kernel_rfl) (fun _ _ _ h => h) (Or.inl ⟨by kernel_rfl, ?_⟩) (by assumption) ?_; rotate_left; focus (intro V9 hS9; have g2 := (HBK.out.keep hS9).cell 2; go_simp; (try (with_reducible rfl)); done))
          try simp only [Act.put, List.getElem_toArray, List.getElem_cons_succ, List.getElem_cons_zero, List.setIfInBounds_toArray, List.set_cons_succ, List.set_cons_zero]
          clear hS3
          refine wpAnyW_ready (rs := [18]) (by kernel_rfl) (by simp) ?_
          refine AllReadyW.cons rfl (fun K hK => ?_) AllReadyW.nil
          go_simp
          refine (HOFI.out _ HS3.out x.b).mono ?_
          rintro e1 U4 ⟨va3, rfl, hr1, hb1⟩
          have HS4 := Lib.hid (HS3.out.trans (hb1.mono HS3.out.size))
          have HR4 := Lib.hid hr1
          clear hr1 hb1
          refine hK.out _ _ HS4.out (fun _ => ?_)
          clear hK K
          try simp only [Act.put, List.getElem_toArray, List.getElem_cons_succ, List.getElem_cons_zero, List.setIfInBounds_toArray, List.set_cons_succ, List.set_cons_zero]
          refine wpAnyW_ready (rs := [22]) (by kernel_rfl) (by simp) ?_
          refine AllReadyW.cons rfl (fun K hK => ?_) AllReadyW.nil
          go_simp
          refine (HOFR.out _ HS4.out x.b).mono ?_
          rintro e1 U5 ⟨vb3, rfl, hr2, hb2⟩
          have HS5 := Lib.hid (HS4.out.trans (hb2.mono HS4.out.size))
          have HN3 := Lib.hid (numbers_v ⟨_, own_bel HR4.out hb2⟩ ⟨_, hr2⟩ (HOL.out _) (HOL.out _))
          rw [show decide (ofP L' x.b = ofP L' x.b) = true from decide_eq_true rfl] at HN3
          clear hr2 hb2
          refine hK.out _ _ HS5.out (fun _ => ?_)
          clear hK K
          try simp only [Act.put, List.getElem_toArray, List.getElem_cons_succ, List.getElem_cons_zero, List.setIfInBounds_toArray, List.set_cons_succ, List.set_cons_zero]
          refine wpAnyW_ready (rs := [23]) (by kernel_rfl) (by simp) ?_
          refine AllReadyW.cons rfl (fun K hK => ?_) AllReadyW.nil
          go_simp
          refine HN3.out.mono ?_
          rintro e1 U6 ⟨rfl, hb3⟩
          have HS6 := Lib.hid (HS5.out.trans (hb3.mono HS5.out.size))
          clear hb3 HS3 HS4 HS5 HN3 HR4
          refine hK.out _ _ HS6.out (fun _ => ?_)
          clear hK K
          try simp only [Act.put, List.getElem_toArray, List.getElem_cons_succ, List.getElem_cons_zero, List.setIfInBounds_toArray, List.set_cons_succ, List.set_cons_zero]
          have hS6 := HS6.out
          (refine wpAnyW_take (i := 24) (v := ?_) rfl (by kernel_rfl) (by kernel_rfl) (by kernel_rfl) (by kernel_rfl) (fun _ _ _ h => h) (Or.inl ⟨by kernel_rfl, ?_⟩) (by assumption) ?_; rotate_left; focus (intro V9 hS9; go_simp; (try (with_reducible rfl)); done))
          try simp only [Act.put, List.getElem_toArray, List.getElem_cons_succ, List.getElem_cons_zero, List.setIfInBounds_toArray, List.set_cons_succ, List.set_cons_zero]
          (refine wpAnyW_take (i := 25) (v := ?_) rfl (by kernel_rfl) (by kernel_rfl) (by kernel_rfl) (by kernel_rfl) (fun _ _ _ h => h) (Or.inl ⟨by kernel_rfl, ?_⟩) (by assumption) ?_; rotate_left; focus (intro V9 hS9; go_simp; (try (with_reducible rfl)); done))
          try simp only [Act.put, List.getElem_toArray, List.getElem_cons_succ, List.getElem_cons_zero, List.setIfInBounds_toArray, List.set_cons_succ, List.set_cons_zero]
          (refine wpAnyW_take (i := 26) (v := ?_) rfl (by kernel_rfl) (by kernel_rfl) (by kernel_rfl) (by kernel_rfl) (fun _ _ _ h => h) (Or.inl ⟨by kernel_rfl, ?_⟩) (by assumption) ?_; rotate_left; focus (intro V9 hS9; go_simp; (try (with_reducible rfl)); done))
          try simp only [Act.put, List.getElem_toArray, List.getElem_cons_succ, List.getElem_cons_zero, List.setIfInBounds_toArray, List.set_cons_succ, List.set_cons_zero]
          (refine wpAnyW_take (i := 27) (v := ?_) rfl (by kernel_rfl) (by kernel_rfl) (by kernel_rfl) (by kernel_rfl) (fun _ _ _ h => h) (Or.inl ⟨by kernel_rfl, ?_⟩) (by assumption) ?_; rotate_left; focus (intro V9 hS9; go_simp; (try (with_reducible rfl)); done))
          try simp only [Act.put, List.getElem_toArray, List.getElem_cons_succ, List.getElem_cons_zero, List.setIfInBounds_toArray, List.set_cons_succ, List.set_cons_zero]
          (refine wpAnyW_take (i := 29) (v := ?_) rfl (by kernel_rfl) (by kernel_rfl) (by kernel_rfl) (by kernel_rfl) (fun _ _ _ h => h) (Or.inl ⟨by kernel_rfl, ?_⟩) (by assumption) ?_; rotate_left; focus (intro V9 hS9; go_simp; (try (with_reducible rfl)); done))
          try simp only [Act.put, List.getElem_toArray, List.getElem_cons_succ, List.getElem_cons_zero, List.setIfInBounds_toArray, List.set_cons_succ, List.set_cons_zero]
          (refine wpAnyW_take (i := 30) (v := ?_) rfl (by kernel_rfl) (by kernel_rfl) (by kernel_rfl) (by kernel_rfl) (fun _ _ _ h => h) (Or.inl ⟨by kernel_rfl, ?_⟩) (by assumption) ?_; rotate_left; focus (intro V9 hS9; go_simp; (try (with_reducible rfl)); done))
          try simp only [Act.put, List.getElem_toArray, List.getElem_cons_succ, List.getElem_cons_zero, List.setIfInBounds_toArray, List.set_cons_succ, List.set_cons_zero]
          (refine wpAnyW_take (i := 31) (v := ?_) rfl (by kernel_rfl) (by kernel_rfl) (by kernel_rfl) (by kernel_rfl) (fun _ _ _ h => h) (Or.inl ⟨by kernel_rfl, ?_⟩) (by assumption) ?_; rotate_left; focus (intro V9 hS9; go_simp; (try (with_reducible rfl)); done))
          try simp only [Act.put, List.getElem_toArray, List.getElem_cons_succ, List.getElem_cons_zero, List.setIfInBounds_toArray, List.set_cons_succ, List.set_cons_zero]
          (refine wpAnyW_take (i := 32) (v := ?_) rfl (by kernel_rfl) (by kernel_rfl) (by kernel_rfl) (by kernel_rfl) (fun _ _ _ h => h) (Or.inl ⟨by kernel_rfl, ?_⟩) (by assumption) ?_; rotate_left; focus (intro V9 hS9; have m1 := (HRK.out.keep hS9).obj.cell 1; go_simp; (try (with_reducible rfl)); done))
          try simp only [Act.put, List.getElem_toArray, List.getElem_cons_succ, List.getElem_cons_zero, List.setIfInBounds_toArray, List.set_cons_succ, List.set_cons_zero]
          clear hS6
          refine wpAnyW_ready (rs := [28]) (by kernel_rfl) (by simp) ?_
          refine AllReadyW.cons rfl (fun K hK => ?_) AllReadyW.nil
          go_simp
          refine (HWT.out _ HS6.out).mono ?_
          rintro e1 U7 ⟨vw, rfl, hr1, hb1⟩
          have HS7 := Lib.hid (HS6.out.trans (hb1.mono HS6.out.size))
          have HWA := Lib.hid (rwatches_v ⟨_, hr1⟩ ⟨_, (HRK.out.keep HS7.out).w⟩ HWL.out HWL.out)
          rw [show decide (wsP M' = wsP M') = true from decide_eq_true rfl] at HWA
          clear hr1 hb1
          refine hK.out _ _ HS7.out (fun _ => ?_)
          clear hK K
          try simp only [Act.put, List.getElem_toArray, List.getElem_cons_succ, List.getElem_cons_zero, List.setIfInBounds_toArray, List.set_cons_succ, List.set_cons_zero]
          refine wpAnyW_ready (rs := [33]) (by kernel_rfl) (by simp) ?_
          refine AllReadyW.cons rfl (fun K hK => ?_) AllReadyW.nil
          go_simp
          refine HWA.out.mono ?_
          rintro e1 U8 ⟨rfl, hb1⟩
          have HS8 := Lib.hid (HS7.out.trans (hb1.mono HS7.out.size))
          clear hb1
          refine hK.out _ _ HS8.out (fun _ => ?_)
          clear hK K
          try simp only [Act.put, List.getElem_toArray, List.getElem_cons_succ, List.getElem_cons_zero, List.setIfInBounds_toArray, List.set_cons_succ, List.set_cons_zero]
          have hS8 := HS8.out
          (refine wpAnyW_take (i := 34) (v := ?_) rfl (by kernel_rfl) (by kernel_rfl) (by kernel_rfl) (by kernel_rfl) (fun _ _ _ h => h) (Or.inl ⟨by kernel_rfl, ?_⟩) (by assumption) ?_; rotate_left; focus (intro V9 hS9; go_simp; (try (with_reducible rfl)); done))
          try simp only [Act.put, List.getElem_toArray, List.getElem_cons_succ, List.getElem_cons_zero, List.setIfInBounds_toArray, List.set_cons_succ, List.set_cons_zero]
          (refine wpAnyW_take (i := 35) (v := ?_) rfl (by kernel_rfl) (by kernel_rfl) (by kernel_rfl) (by kernel_rfl) (fun _ _ _ h => h) (Or.inl ⟨by kernel_rfl, ?_⟩) (by assumption) ?_; rotate_left; focus (intro V9 hS9; go_simp; (try (with_reducible rfl)); done))
          try simp only [Act.put, List.getElem_toArray, List.getElem_cons_succ, List.getElem_cons_zero, List.setIfInBounds_toArray, List.set_cons_succ, List.set_cons_zero]
          (refine wpAnyW_take (i := 36) (v := ?_) rfl (by kernel_rfl) (by kernel_rfl) (by kernel_rfl) (by kernel_rfl) (fun _ _ _ h => h) (Or.inl ⟨by kernel_rfl, ?_⟩) (by assumption) ?_; rotate_left; focus (intro V9 hS9; go_simp; (try (with_reducible rfl)); done))
          try simp only [Act.put, List.getElem_toArray, List.getElem_cons_succ, List.getElem_cons_zero, List.setIfInBounds_toArray, List.set_cons_succ, List.set_cons_zero]
          (refine wpAnyW_take (i := 37) (v := ?_) rfl (by kernel_rfl) (by kernel_rfl) (by kernel_rfl) (by kernel_rfl) (fun _ _ _ h => h) (Or.inl ⟨by kernel_rfl, ?_⟩) (by assumption) ?_; rotate_left; focus (intro V9 hS9; go_simp; (try (with_reducible rfl)); done))
          try simp only [Act.put, List.getElem_toArray, List.getElem_cons_succ, List.getElem_cons_zero, List.setIfInBounds_toArray, List.set_cons_succ, List.set_cons_zero]
          (refine wpAnyW_take (i := 38) (v := ?_) rfl (by kernel_rfl) (by kernel_rfl) (by kernel_rfl) (by kernel_rfl) (fun _ _ _ h => h) (Or.inl ⟨by kernel_rfl, ?_⟩) (by assumption) ?_; rotate_left; focus (intro V9 hS9; go_simp; (try (with_reducible rfl)); done))
          try simp only [Act.put, List.getElem_toArray, List.getElem_cons_succ, List.getElem_cons_zero, List.setIfInBounds_toArray, List.set_cons_succ, List.set_cons_zero]
          clear hS8
          refine wpAnyW_ready (rs := [39]) (by kernel_rfl) (by simp) ?_
          refine AllReadyW.cons rfl (fun K hK => ?_) AllReadyW.nil
          go_simp
          refine (HPS.out _ HS8.out).mono ?_
          rintro e1 U9 ⟨rfl, hb1⟩
          have HS9 := Lib.hid (HS8.out.trans (hb1.mono HS8.out.size))
          clear hb1
          refine hK.out _ _ HS9.out (fun _ => ?_)
          clear hK K
          try simp only [Act.put, List.getElem_toArray, List.getElem_cons_succ, List.getElem_cons_zero, List.setIfInBounds_toArray, List.set_cons_succ, List.set_cons_zero]
          have hS9 := HS9.out
          (refine wpAnyW_take (i := 40) (v := ?_) rfl (by kernel_rfl) (by kernel_rfl) (by kernel_rfl) (by kernel_rfl) (fun _ _ _ h => h) (Or.inl ⟨by kernel_rfl, ?_⟩) (by assumption) ?_; rotate_left; focus (intro V9 hS9; go_simp; (try (with_reducible rfl)); done))
          try simp only [Act.put, List.getElem_toArray, List.getElem_cons_succ, List.getElem_cons_zero, List.setIfInBounds_toArray, List.set_cons_succ, List.set_cons_zero]
          clear hS9
          refine wpAnyW_ready (rs := [41]) (by kernel_rfl) (by simp) ?_
          refine AllReadyW.consE rfl (by kernel_rfl) (fun K hK => ?_) AllReadyW.nil
          go_simp
          refine hK.out _ _ ?_
          clear hK K
          refine wpAnyW_done (by kernel_rfl) ?_ _
          have HNX := Lib.hid (HP.out.keep HS9.out)
          clear HOFI HOFR HWT HPS
          go_wp2
          go_roundw
          case rel => exact ⟨k + 1, _, _, hlt, by go_num, HNX.out⟩
          case measure => simp [intOf]; omega
      · obtain rfl : k = len := by omega
        have hd1 : decide (k < k) = false := by simp
        go_wp2_with (go_at_call 8; refine (HLV.out _).mono ?_; rintro e w5 ⟨rfl, hb⟩; have HB5 := Lib.hid (below_step HP.out.lk.old hb); clear hb)
        go_ret
        exact ⟨rfl, HB5.out⟩
end Go.Proofs.Ytpfikhamokjdjaa
