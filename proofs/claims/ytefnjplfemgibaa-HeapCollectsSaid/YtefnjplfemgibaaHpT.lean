/- Heap (layer 9): the walk of Get. Written by hpgent.py. -/
import Derived.Test.YtefnjplfemgibaaHpU
import Derived.Test.YtefnjplfemgibaaHpO
import Derived.Deep.DeepCutAuto
import Derived.Deep.CutBlock
namespace Go.Proofs.Ytefnjplfemgibaa
open Go.RowKit
set_option linter.unusedVariables false

def GetEnds (W : World) (r : Option (List Nat × List (List UInt8) × List Nat)) (e : Ending) (W' : World) : Prop :=
  Below W.heap.size W W' ∧ (r = none → e = .returned (.tuple #[.agg #[.slice none 0 0, .slice none 0 0, .slice none 0 0], .int .i64 90])) ∧
    (∀ ws nm rs, r = some (ws, nm, rs) → ∃ Aw cw Aa ca Ar cr, e = .returned (.tuple #[.agg #[.slice Aw ws.length cw, .slice Aa nm.length ca, .slice Ar rs.length cr], .int .i64 0]) ∧ HRd W' Aw ws.length cw Aa nm.length ca Ar rs.length cr ws nm rs)
section
variable {W W' V : World}
set_option maxRecDepth 100000 in
set_option maxHeartbeats 8000000 in
theorem hget_v (A : Option Addr) (l : List UInt8) (n c : Nat) (W : World) (hl : l.length = n) (hn : n ≤ 140737488351232) (hr : Rd W A l) :
    Calls Try.prog 23 #[.slice A n c] W (GetEnds W (getP l)) := by
  have HOP : Hid (∀ V, Below W.heap.size W V → _) := Lib.hid fun V (hV : Below W.heap.size W V) => open_any A l n c V hl hn (hr.below hV)
  have HLN := Lib.hid hl
  obtain ⟨R, hR⟩ : ∃ R, getP l = R := ⟨_, rfl⟩
  rw [hR]
  have HR := Lib.hid hR
  clear hR hl hr
  obtain ⟨g, hg⟩ : ∃ g, W.heap.size = g := ⟨_, rfl⟩
  have HG := Lib.hid hg
  go_enter Try.func23, Try.ntmps23
  go_upto_region 1 with (fail)
  refine wp_world (fun V => Below W.heap.size W V ∧ Blk V g 29 #[.slice none 0 0, .slice none 0 0, .slice none 0 0] ∧ Blk V (g + 1) 30 #[.int .i64 0] ∧ V.heap.size = g + 2) ⟨below_step (below_alloc _ _) (below_alloc _ _), by rw [← HG.out]; exact (Blk.new _ _ _).alloc _, by rw [← HG.out]; exact Blk.newAt (by simp), by rw [← HG.out]; simp⟩ ?_
  rintro V0 ⟨hb, hk, he, hz⟩
  have HB0 := Lib.hid hb
  have HK0 := Lib.hid hk
  have HE0 := Lib.hid he
  have HZ0 := Lib.hid hz
  clear hb hk he hz hg
  go_upto_region 2 with (go_at_call 41; refine (HOP.out V0 HB0.out).mono ?_; rintro e w1 ⟨pt, B, cB, rfl, hT, hBB, hpt⟩)
  obtain ⟨gr, hgr⟩ : ∃ gr, w1.heap.size = gr := ⟨_, rfl⟩
  rw [hgr] at hpt ⊢
  have hGI : GI W (gr + 1) g (g + 1) gr pt B cB (.slice none 0 0) (.slice none 0 0) (.slice none 0 0) [] [] [] ⟨l, 0, 0, 0⟩ 0 (w1.alloc (.cells #[.pointer (some ⟨pt, 0, none⟩)] 87)) := by
    have hb1 := hT.bel
    have hz := HZ0.out
    have hgw := HG.out
    have hsz := hb1.size
    have ho := hT.own
    exact {
      old := below_step (below_step HB0.out hb1) (below_alloc _ _)
      tape := hT.tape.keep (below_alloc _ _)
      hb := (HK0.out.keep hb1).alloc _
      eb := (HE0.out.keep hb1).alloc _
      rb := by rw [← hgr]; exact Blk.new _ _ _
      ow := ⟨rfl, .inl ⟨rfl, rfl⟩⟩
      oa := ⟨rfl, .inl ⟨rfl, rfl⟩⟩
      orr := ⟨rfl, .inl ⟨rfl, rfl⟩⟩
      lo := ⟨by omega, by omega, by omega, by omega, by omega⟩
      hi := ⟨by omega, by omega, by omega, by omega, by simp; omega⟩
      ne := ⟨by omega, by omega, by omega, by omega, by omega, by omega⟩
      bB := fun b off e9 => by have := hBB b off e9; exact ⟨by omega, by omega, by omega⟩
      apart := fun k => ⟨(fun (h9 : (none : Option Nat) = some k) => by cases h9), (fun (h9 : (none : Option Nat) = some k) => by cases h9)⟩
      w64 := fun x h9 => by cases h9
      r64 := fun x h9 => by cases h9
      le := Nat.zero_le _ }
  refine wp_world (fun V => GI W (gr + 1) g (g + 1) gr pt B cB (.slice none 0 0) (.slice none 0 0) (.slice none 0 0) [] [] [] ⟨l, 0, 0, 0⟩ 0 V) hGI ?_
  clear hGI hgr hpt hBB hT HB0 HK0 HE0 HZ0 HOP
  rintro V1 hI
  have HI1 := Lib.hid hI
  clear hI
  have hct := cntP_le ⟨l, 0, 0, 0⟩ 0
  have hce := cntP_e ⟨l, 0, 0, 0⟩ (e := 0) HI1.out.le
  have HCV := Lib.hid (count_v HI1.out)
  obtain ⟨q1, t1, e1, hc1⟩ : ∃ q t e, cntP ⟨l, 0, 0, 0⟩ 0 = (q, t, e) := ⟨_, _, _, rfl⟩
  have HC1 := Lib.hid hc1
  rw [hc1] at hct hce HCV
  simp only at hct hce HCV
  clear hc1
  go_upto_block 0 with (go_at_call 44; refine HCV.out.mono ?_; rintro e w2 ⟨rfl, hI⟩)
  obtain ⟨L1, T1, hL1⟩ : ∃ L T, numsP q1 t1 e1 = (L, T) := ⟨_, _, rfl⟩
  have HL1 := Lib.hid hL1
  have HI := Lib.hid hI
  clear hL1 hI HCV
  clear HI1
  go_cut [7] (fun _ wx => ∃ vz, GI W (gr + 1) g (g + 1) gr pt B cB vz (.slice none 0 0) (.slice none 0 0) L1 [] [] T1 e1 wx)
  case first =>
    go_wp2_with (fail)
    go_loopw [7] (fun i wr => ∃ (k : Nat) (t : TS) (acc : List Nat) (vz : Value), i = .int .i64 k ∧ k ≤ 65536 ∧ acc.length + k ≤ 65536 ∧ acc ++ (numsP k t e1).1 = L1 ∧ (numsP k t e1).2 = T1 ∧ GI W (gr + 1) g (g + 1) gr pt B cB vz (.slice none 0 0) (.slice none 0 0) acc [] [] t e1 wr) (fun i _ => (intOf i).toNat)
    case atStart => exact ⟨q1, t1, [], _, rfl, hct, by simpa using hct, (by rw [HL1.out]; first | done | rfl), (by rw [HL1.out]; first | done | rfl), HI.out⟩
    case round =>
      obtain ⟨k, t, acc, vz, rfl, hk9, hka, hacc, htt, hI⟩ := hrel
      have HIr := Lib.hid hI
      clear hI HI
      by_cases hk0 : k = 0
      · subst hk0
        rw [numsP_zero] at hacc htt
        have HA := Lib.hid hacc
        have HT := Lib.hid htt
        clear hacc htt
        go_wp2_with (fail)
        go_meet
        exact ⟨vz, by have h9 := HIr.out; rw [← HA.out, ← HT.out, List.append_nil]; exact h9⟩
      obtain ⟨m, rfl⟩ : ∃ m, k = m + 1 := ⟨k - 1, by omega⟩
      have d1 : decide ((0 : Int) < ((m + 1 : Nat) : Int)) = true := by first | (simp; done) | (simp; omega)
      have HSV := Lib.hid (sound_v HIr.out)
      by_cases hsn : t.fault = 0 ∧ e1 = 0
      rotate_left
      · rw [numsP_no _ hsn] at hacc htt
        rw [decide_eq_false hsn] at HSV
        have HA := Lib.hid hacc
        have HT := Lib.hid htt
        clear hacc htt hsn
        go_wp2_with (go_at_call 42; refine HSV.out.mono ?_; rintro e w3 ⟨rfl, hI3⟩)
        go_meet
        exact ⟨vz, by rw [← HA.out, ← HT.out, List.append_nil]; exact hI3⟩
      rw [numsP_yes _ hsn] at hacc htt
      rw [decide_eq_true hsn] at HSV
      clear hsn
      obtain ⟨x, tn, hxn⟩ : ∃ x y, (t.number false).1.1 = x ∧ (t.number false).2 = y := ⟨_, _, rfl, rfl⟩
      have hlt := number_lt (t := t) false
      rw [hxn.1, hxn.2] at hacc htt
      rw [hxn.1] at hlt
      have HA := Lib.hid (show (acc ++ [x]) ++ (numsP m tn e1).1 = L1 by rw [← hacc]; simp)
      have HT := Lib.hid htt
      have HXN := Lib.hid hxn
      clear hacc htt hxn
      go_upto_region 7 with (go_at_call 42; refine HSV.out.mono ?_; rintro e w3 ⟨rfl, hI3⟩)
      refine wp_world (fun V => GI W (gr + 1) g (g + 1) gr pt B cB vz (.slice none 0 0) (.slice none 0 0) acc [] [] t e1 V) hI3 ?_
      clear hI3 HSV HIr
      rintro V5 hI5
      have HI5 := Lib.hid hI5
      clear hI5
      refine wp_region_W 7 (fun V => V.cell? ⟨g, 0, none⟩ = some vz ∧ V.cell? ⟨gr, 0, none⟩ = some (.pointer (some ⟨pt, 0, none⟩))) (by kernel_rfl) ?_ (fun hS0 => ?_)
      · exact ⟨HI5.out.hb.cell 0, HI5.out.rb.cell 0⟩
      (refine wpAnyW_take (i := 0) (v := ?_) rfl (by kernel_rfl) (by kernel_rfl) (by kernel_rfl) (by kernel_rfl) (fun _ _ _ h => h) (Or.inl ⟨by kernel_rfl, ?_⟩) (by assumption) ?_; rotate_left; focus (intro V9 hS9; go_simp; (try (with_reducible rfl)); done))
      try simp only [Act.put, List.getElem_toArray, List.getElem_cons_zero, List.setIfInBounds_toArray, List.set_cons_succ, List.set_cons_zero]
      (refine wpAnyW_take (i := 1) (v := ?_) rfl (by kernel_rfl) (by kernel_rfl) (by kernel_rfl) (by kernel_rfl) (fun _ _ _ h => h) (Or.inl ⟨by kernel_rfl, ?_⟩) (by assumption) ?_; rotate_left; focus (intro V9 hS9; obtain ⟨g0, g1⟩ := hS9; go_simp; (try (with_reducible rfl)); done))
      try simp only [Act.put, List.getElem_toArray, List.getElem_cons_succ, List.getElem_cons_zero, List.setIfInBounds_toArray, List.set_cons_succ, List.set_cons_zero]
      (refine wpAnyW_take (i := 2) (v := ?_) rfl (by kernel_rfl) (by kernel_rfl) (by kernel_rfl) (by kernel_rfl) (fun _ _ _ h => h) (Or.inl ⟨by kernel_rfl, ?_⟩) (by assumption) ?_; rotate_left; focus (intro V9 hS9; obtain ⟨g0, g1⟩ := hS9; go_simp; (try (with_reducible rfl)); done))
      try simp only [Act.put, List.getElem_toArray, List.getElem_cons_succ, List.getElem_cons_zero, List.setIfInBounds_toArray, List.set_cons_succ, List.set_cons_zero]
      refine wpAnyW_ready (rs := [3]) (by kernel_rfl) (by simp) ?_
      refine AllReadyW.cons rfl (fun K hK => ?_) AllReadyW.nil
      go_simp
      have hI5 := HI5.out.keep (Below.refl _ _).drew
      refine (tnum_any hI5.tape).mono ?_
      rintro r w6 ⟨rfl, hA⟩
      have hI6 := hI5.tact hA
      rw [HXN.out.2] at hI6
      rw [HXN.out.1]
      refine hK.out _ _ ⟨hI6.hb.cell 0, hI6.rb.cell 0⟩ (fun _ => ?_)
      clear hK K
      try simp only [Act.put, List.getElem_toArray, List.getElem_cons_succ, List.getElem_cons_zero, List.setIfInBounds_toArray, List.set_cons_succ, List.set_cons_zero]
      refine wpAnyW_ready (rs := [4]) (by kernel_rfl) (by simp) ?_
      refine AllReadyW.cons rfl (fun K hK => ?_) AllReadyW.nil
      go_simp
      have hIA := hI6.keep (below_alloc w6 (.cells #[.int .u64 (x : Int)] 34))
      refine hK.out _ _ ⟨hIA.hb.cell 0, hIA.rb.cell 0⟩ (fun _ => ?_)
      clear hK K
      try simp only [Act.put, List.getElem_toArray, List.getElem_cons_succ, List.getElem_cons_zero, List.setIfInBounds_toArray, List.set_cons_succ, List.set_cons_zero]
      refine wpAnyW_ready (rs := [5]) (by kernel_rfl) (by simp) ?_
      refine AllReadyW.cons rfl (fun K hK => ?_) AllReadyW.nil
      have hacl : acc.length ≤ 65536 := by omega
      refine step_appO uintsT (by kernel_rfl) (.tmp 25) (.tmp 28) rfl (gr + 1) acc.length (acc.map nv) vz hIA.ow (some ⟨w6.heap.size, 0, none⟩) 1 1 [nv x] (by rfl) (by rfl) rfl (blk_cs (Blk.new w6 _ _)) (nv_one [x]) (by unfold maxLen; omega) (by omega) hIA.hi.2.2.2.2 ?_
      intro v7 w7 ho7 hg7 hat7
      have hlo : ∀ q, vz.ownBlock = some q → gr + 1 ≤ q := fun q hq => (own_heap hIA.ow hq).1
      have hO7 := hIA.hb.grown hg7 (fun e9 => by have := hlo g e9.symm; have := hIA.hi; omega)
      have hr7 := hIA.rb.grown hg7 (fun e9 => by have := hlo gr e9.symm; omega)
      refine hK.out _ _ ⟨hO7.cell 0, hr7.cell 0⟩ (fun _ => ?_)
      clear hK K
      try simp only [Act.put, List.getElem_toArray, List.getElem_cons_succ, List.getElem_cons_zero, List.setIfInBounds_toArray, List.set_cons_succ, List.set_cons_zero]
      obtain ⟨A7, c7, rfl⟩ := own_sl ho7
      (refine wpAnyW_take (i := 6) (v := ?_) rfl (by kernel_rfl) (by kernel_rfl) (by kernel_rfl) (by kernel_rfl) (fun _ _ _ h => h) (Or.inl ⟨by kernel_rfl, ?_⟩) (by assumption) ?_; rotate_left; focus (intro V9 hS9; go_simp; (try (with_reducible rfl)); done))
      try simp only [Act.put, List.getElem_toArray, List.getElem_cons_succ, List.getElem_cons_zero, List.setIfInBounds_toArray, List.set_cons_succ, List.set_cons_zero]
      refine wpAnyW_ready (rs := [7]) (by kernel_rfl) (by simp) ?_
      refine AllReadyW.consE rfl (by kernel_rfl) (fun K hK => ?_) AllReadyW.nil
      have hfz := hO7.frozen 0
      have gc := hO7.cell 0
      go_simp
      refine hK.out _ _ ?_
      clear hK K
      refine wpAnyW_done (by kernel_rfl) ?_ _
      have hEND := Lib.hid (hIA.setW (xs := acc ++ [x]) (by simpa using ho7) hg7 hat7 (fun y hy => by rcases List.mem_append.1 hy with h9 | h9; exact hIA.w64 y h9; rw [List.mem_singleton.1 h9]; exact hlt))
      clear hfz gc hO7 hr7 ho7 hg7 hat7 hIA hI6 hI5 hA hS0 hlo
      go_wp2
      go_roundw
      case rel => exact ⟨m, tn, acc ++ [x], _, by first | rfl | (congr 1; omega) | simp, by omega, by simp; omega, HA.out, HT.out, hEND.out⟩
      case measure => first | (simp [intOf]; done) | (simp [intOf]; omega)
  case rest =>
    obtain ⟨vw, hI⟩ := hcut
    have HI2 := Lib.hid hI
    clear hI HI
    have hct := cntP_le T1 e1
    have hce := cntP_e T1 (e := e1) HI2.out.le
    have HCV := Lib.hid (count_v HI2.out)
    obtain ⟨q2, t2, e2, hc2⟩ : ∃ q t e, cntP T1 e1 = (q, t, e) := ⟨_, _, _, rfl⟩
    have HC2 := Lib.hid hc2
    rw [hc2] at hct hce HCV
    simp only at hct hce HCV
    clear hc2
    go_upto_block 2 with (go_at_call 44; refine HCV.out.mono ?_; rintro e w2 ⟨rfl, hI⟩)
    obtain ⟨L2, T2, hL2⟩ : ∃ L T, strsP (n : Int) q2 t2 e2 = (L, T) := ⟨_, _, rfl⟩
    have HL2 := Lib.hid hL2
    have HI := Lib.hid hI
    clear hL2 hI HCV
    clear HI2
    go_cut [8] (fun _ wx => ∃ vz, GI W (gr + 1) g (g + 1) gr pt B cB vw vz (.slice none 0 0) L1 L2 [] T2 e2 wx)
    case first =>
      go_wp2_with (fail)
      go_loopw [8] (fun i wr => ∃ (k : Nat) (t : TS) (acc : List (List UInt8)) (vz : Value), i = .int .i64 k ∧ k ≤ 65536 ∧ acc.length + k ≤ 65536 ∧ acc ++ (strsP (n : Int) k t e2).1 = L2 ∧ (strsP (n : Int) k t e2).2 = T2 ∧ GI W (gr + 1) g (g + 1) gr pt B cB vw vz (.slice none 0 0) L1 acc [] t e2 wr) (fun i _ => (intOf i).toNat)
      case atStart => exact ⟨q2, t2, [], _, rfl, hct, by simpa using hct, (by rw [HL2.out]; first | done | rfl), (by rw [HL2.out]; first | done | rfl), HI.out⟩
      case round =>
        obtain ⟨k, t, acc, vz, rfl, hk9, hka, hacc, htt, hI⟩ := hrel
        have HIr := Lib.hid hI
        clear hI HI
        by_cases hk0 : k = 0
        · subst hk0
          rw [strsP_zero] at hacc htt
          have HA := Lib.hid hacc
          have HT := Lib.hid htt
          clear hacc htt
          go_wp2_with (fail)
          go_meet
          exact ⟨vz, by have h9 := HIr.out; rw [← HA.out, ← HT.out, List.append_nil]; exact h9⟩
        obtain ⟨m, rfl⟩ : ∃ m, k = m + 1 := ⟨k - 1, by omega⟩
        have d1 : decide ((0 : Int) < ((m + 1 : Nat) : Int)) = true := by first | (simp; done) | (simp; omega)
        have HSV := Lib.hid (sound_v HIr.out)
        by_cases hsn : t.fault = 0 ∧ e2 = 0
        rotate_left
        · rw [strsP_no (n : Int) _ hsn] at hacc htt
          rw [decide_eq_false hsn] at HSV
          have HA := Lib.hid hacc
          have HT := Lib.hid htt
          clear hacc htt hsn
          go_wp2_with (go_at_call 42; refine HSV.out.mono ?_; rintro e w3 ⟨rfl, hI3⟩)
          go_meet
          exact ⟨vz, by rw [← HA.out, ← HT.out, List.append_nil]; exact hI3⟩
        rw [strsP_yes (n : Int) _ hsn] at hacc htt
        rw [decide_eq_true hsn] at HSV
        clear hsn
        obtain ⟨x, tn, hxn⟩ : ∃ x y, (t.str (n : Int)).1 = x ∧ (t.str (n : Int)).2 = y := ⟨_, _, rfl, rfl⟩
        rw [hxn.1, hxn.2] at hacc htt
        have HA := Lib.hid (show (acc ++ [x]) ++ (strsP (n : Int) m tn e2).1 = L2 by rw [← hacc]; simp)
        have HT := Lib.hid htt
        have HXN := Lib.hid hxn
        clear hacc htt hxn
        go_upto_region 11 with (go_at_call 42; refine HSV.out.mono ?_; rintro e w3 ⟨rfl, hI3⟩)
        refine wp_world (fun V => GI W (gr + 1) g (g + 1) gr pt B cB vw vz (.slice none 0 0) L1 acc [] t e2 V) hI3 ?_
        clear hI3 HSV HIr
        rintro V5 hI5
        have HI5 := Lib.hid hI5
        clear hI5
        refine wp_region_W 9 (fun V => V.cell? ⟨g, 1, none⟩ = some vz ∧ V.cell? ⟨gr, 0, none⟩ = some (.pointer (some ⟨pt, 0, none⟩))) (by kernel_rfl) ?_ (fun hS0 => ?_)
        · exact ⟨HI5.out.hb.cell 1, HI5.out.rb.cell 0⟩
        (refine wpAnyW_take (i := 0) (v := ?_) rfl (by kernel_rfl) (by kernel_rfl) (by kernel_rfl) (by kernel_rfl) (fun _ _ _ h => h) (Or.inl ⟨by kernel_rfl, ?_⟩) (by assumption) ?_; rotate_left; focus (intro V9 hS9; go_simp; (try (with_reducible rfl)); done))
        try simp only [Act.put, List.getElem_toArray, List.getElem_cons_zero, List.setIfInBounds_toArray, List.set_cons_succ, List.set_cons_zero]
        (refine wpAnyW_take (i := 1) (v := ?_) rfl (by kernel_rfl) (by kernel_rfl) (by kernel_rfl) (by kernel_rfl) (fun _ _ _ h => h) (Or.inl ⟨by kernel_rfl, ?_⟩) (by assumption) ?_; rotate_left; focus (intro V9 hS9; obtain ⟨g0, g1⟩ := hS9; go_simp; (try (with_reducible rfl)); done))
        try simp only [Act.put, List.getElem_toArray, List.getElem_cons_succ, List.getElem_cons_zero, List.setIfInBounds_toArray, List.set_cons_succ, List.set_cons_zero]
        (refine wpAnyW_take (i := 2) (v := ?_) rfl (by kernel_rfl) (by kernel_rfl) (by kernel_rfl) (by kernel_rfl) (fun _ _ _ h => h) (Or.inl ⟨by kernel_rfl, ?_⟩) (by assumption) ?_; rotate_left; focus (intro V9 hS9; obtain ⟨g0, g1⟩ := hS9; go_simp; (try (with_reducible rfl)); done))
        try simp only [Act.put, List.getElem_toArray, List.getElem_cons_succ, List.getElem_cons_zero, List.setIfInBounds_toArray, List.set_cons_succ, List.set_cons_zero]
        (refine wpAnyW_take (i := 3) (v := ?_) rfl (by kernel_rfl) (by kernel_rfl) (by kernel_rfl) (by kernel_rfl) (fun _ _ _ h => h) (Or.inl ⟨by kernel_rfl, ?_⟩) (by assumption) ?_; rotate_left; focus (intro V9 hS9; go_simp; (try (with_reducible rfl)); done))
        try simp only [Act.put, List.getElem_toArray, List.getElem_cons_succ, List.getElem_cons_zero, List.setIfInBounds_toArray, List.set_cons_succ, List.set_cons_zero]
        (refine wpAnyW_take (i := 4) (v := ?_) rfl (by kernel_rfl) (by kernel_rfl) (by kernel_rfl) (by kernel_rfl) (fun _ _ _ h => h) (Or.inl ⟨by kernel_rfl, ?_⟩) (by assumption) ?_; rotate_left; focus (intro V9 hS9; go_simp; (try (with_reducible rfl)); done))
        try simp only [Act.put, List.getElem_toArray, List.getElem_cons_succ, List.getElem_cons_zero, List.setIfInBounds_toArray, List.set_cons_succ, List.set_cons_zero]
        refine wpAnyW_ready (rs := [5]) (by kernel_rfl) (by simp) ?_
        refine AllReadyW.cons rfl (fun K hK => ?_) AllReadyW.nil
        go_simp
        have hI5 := HI5.out.keep (Below.refl _ _).drew
        refine (tstr_any hI5.tape (n : Int) (by omega)).mono ?_
        rintro r w6 ⟨rfl, hA⟩
        have hI6 := hI5.tact hA
        rw [HXN.out.2] at hI6
        rw [HXN.out.1]
        refine hK.out _ _ ⟨hI6.hb.cell 1, hI6.rb.cell 0⟩ (fun _ => ?_)
        clear hK K
        try simp only [Act.put, List.getElem_toArray, List.getElem_cons_succ, List.getElem_cons_zero, List.setIfInBounds_toArray, List.set_cons_succ, List.set_cons_zero]
        refine wpAnyW_ready (rs := [6]) (by kernel_rfl) (by simp) ?_
        refine AllReadyW.cons rfl (fun K hK => ?_) AllReadyW.nil
        go_simp
        have hIA := hI6.keep (below_alloc w6 (.cells #[.string ⟨x.toArray⟩] 9))
        refine hK.out _ _ ⟨hIA.hb.cell 1, hIA.rb.cell 0⟩ (fun _ => ?_)
        clear hK K
        try simp only [Act.put, List.getElem_toArray, List.getElem_cons_succ, List.getElem_cons_zero, List.setIfInBounds_toArray, List.set_cons_succ, List.set_cons_zero]
        refine wpAnyW_ready (rs := [7]) (by kernel_rfl) (by simp) ?_
        refine AllReadyW.cons rfl (fun K hK => ?_) AllReadyW.nil
        have hacl : acc.length ≤ 65536 := by omega
        refine step_appO htextsT (by kernel_rfl) (.tmp 42) (.tmp 47) rfl (gr + 1) acc.length (acc.map hv) vz hIA.oa (some ⟨w6.heap.size, 0, none⟩) 1 1 [hv x] (by rfl) (by rfl) rfl (blk_cs (Blk.new w6 _ _)) (hv_one [x]) (by unfold maxLen; omega) (by omega) hIA.hi.2.2.2.2 ?_
        intro v7 w7 ho7 hg7 hat7
        have hlo : ∀ q, vz.ownBlock = some q → gr + 1 ≤ q := fun q hq => (own_heap hIA.oa hq).1
        have hO7 := hIA.hb.grown hg7 (fun e9 => by have := hlo g e9.symm; have := hIA.hi; omega)
        have hr7 := hIA.rb.grown hg7 (fun e9 => by have := hlo gr e9.symm; omega)
        refine hK.out _ _ ⟨hO7.cell 1, hr7.cell 0⟩ (fun _ => ?_)
        clear hK K
        try simp only [Act.put, List.getElem_toArray, List.getElem_cons_succ, List.getElem_cons_zero, List.setIfInBounds_toArray, List.set_cons_succ, List.set_cons_zero]
        obtain ⟨A7, c7, rfl⟩ := own_sl ho7
        (refine wpAnyW_take (i := 8) (v := ?_) rfl (by kernel_rfl) (by kernel_rfl) (by kernel_rfl) (by kernel_rfl) (fun _ _ _ h => h) (Or.inl ⟨by kernel_rfl, ?_⟩) (by assumption) ?_; rotate_left; focus (intro V9 hS9; go_simp; (try (with_reducible rfl)); done))
        try simp only [Act.put, List.getElem_toArray, List.getElem_cons_succ, List.getElem_cons_zero, List.setIfInBounds_toArray, List.set_cons_succ, List.set_cons_zero]
        refine wpAnyW_ready (rs := [9]) (by kernel_rfl) (by simp) ?_
        refine AllReadyW.consE rfl (by kernel_rfl) (fun K hK => ?_) AllReadyW.nil
        have hfz := hO7.frozen 1
        have gc := hO7.cell 1
        go_simp
        refine hK.out _ _ ?_
        clear hK K
        refine wpAnyW_done (by kernel_rfl) ?_ _
        have hEND := Lib.hid (hIA.setA (ss := acc ++ [x]) (by simpa using ho7) hg7 hat7)
        clear hfz gc hO7 hr7 ho7 hg7 hat7 hIA hI6 hI5 hA hS0 hlo
        go_wp2
        go_roundw
        case rel => exact ⟨m, tn, acc ++ [x], _, by first | rfl | (congr 1; omega) | simp, by omega, by simp; omega, HA.out, HT.out, hEND.out⟩
        case measure => first | (simp [intOf]; done) | (simp [intOf]; omega)
    case rest =>
      obtain ⟨va, hI⟩ := hcut
      have HI3 := Lib.hid hI
      clear hI HI
      have hct := cntP_le T2 e2
      have hce := cntP_e T2 (e := e2) HI3.out.le
      have HCV := Lib.hid (count_v HI3.out)
      obtain ⟨q3, t3, e3, hc3⟩ : ∃ q t e, cntP T2 e2 = (q, t, e) := ⟨_, _, _, rfl⟩
      have HC3 := Lib.hid hc3
      rw [hc3] at hct hce HCV
      simp only at hct hce HCV
      clear hc3
      go_upto_block 4 with (go_at_call 44; refine HCV.out.mono ?_; rintro e w2 ⟨rfl, hI⟩)
      obtain ⟨L3, T3, hL3⟩ : ∃ L T, numsP q3 t3 e3 = (L, T) := ⟨_, _, rfl⟩
      have HL3 := Lib.hid hL3
      have HI := Lib.hid hI
      clear hL3 hI HCV
      clear HI3
      go_cut [9] (fun _ wx => ∃ vz, GI W (gr + 1) g (g + 1) gr pt B cB vw va vz L1 L2 L3 T3 e3 wx)
      case first =>
        go_wp2_with (fail)
        go_loopw [9] (fun i wr => ∃ (k : Nat) (t : TS) (acc : List Nat) (vz : Value), i = .int .i64 k ∧ k ≤ 65536 ∧ acc.length + k ≤ 65536 ∧ acc ++ (numsP k t e3).1 = L3 ∧ (numsP k t e3).2 = T3 ∧ GI W (gr + 1) g (g + 1) gr pt B cB vw va vz L1 L2 acc t e3 wr) (fun i _ => (intOf i).toNat)
        case atStart => exact ⟨q3, t3, [], _, rfl, hct, by simpa using hct, (by rw [HL3.out]; first | done | rfl), (by rw [HL3.out]; first | done | rfl), HI.out⟩
        case round =>
          obtain ⟨k, t, acc, vz, rfl, hk9, hka, hacc, htt, hI⟩ := hrel
          have HIr := Lib.hid hI
          clear hI HI
          by_cases hk0 : k = 0
          · subst hk0
            rw [numsP_zero] at hacc htt
            have HA := Lib.hid hacc
            have HT := Lib.hid htt
            clear hacc htt
            go_wp2_with (fail)
            go_meet
            exact ⟨vz, by have h9 := HIr.out; rw [← HA.out, ← HT.out, List.append_nil]; exact h9⟩
          obtain ⟨m, rfl⟩ : ∃ m, k = m + 1 := ⟨k - 1, by omega⟩
          have d1 : decide ((0 : Int) < ((m + 1 : Nat) : Int)) = true := by first | (simp; done) | (simp; omega)
          have HSV := Lib.hid (sound_v HIr.out)
          by_cases hsn : t.fault = 0 ∧ e3 = 0
          rotate_left
          · rw [numsP_no _ hsn] at hacc htt
            rw [decide_eq_false hsn] at HSV
            have HA := Lib.hid hacc
            have HT := Lib.hid htt
            clear hacc htt hsn
            go_wp2_with (go_at_call 42; refine HSV.out.mono ?_; rintro e w3 ⟨rfl, hI3⟩)
            go_meet
            exact ⟨vz, by rw [← HA.out, ← HT.out, List.append_nil]; exact hI3⟩
          rw [numsP_yes _ hsn] at hacc htt
          rw [decide_eq_true hsn] at HSV
          clear hsn
          obtain ⟨x, tn, hxn⟩ : ∃ x y, (t.number false).1.1 = x ∧ (t.number false).2 = y := ⟨_, _, rfl, rfl⟩
          have hlt := number_lt (t := t) false
          rw [hxn.1, hxn.2] at hacc htt
          rw [hxn.1] at hlt
          have HA := Lib.hid (show (acc ++ [x]) ++ (numsP m tn e3).1 = L3 by rw [← hacc]; simp)
          have HT := Lib.hid htt
          have HXN := Lib.hid hxn
          clear hacc htt hxn
          go_upto_region 15 with (go_at_call 42; refine HSV.out.mono ?_; rintro e w3 ⟨rfl, hI3⟩)
          refine wp_world (fun V => GI W (gr + 1) g (g + 1) gr pt B cB vw va vz L1 L2 acc t e3 V) hI3 ?_
          clear hI3 HSV HIr
          rintro V5 hI5
          have HI5 := Lib.hid hI5
          clear hI5
          refine wp_region_W 7 (fun V => V.cell? ⟨g, 2, none⟩ = some vz ∧ V.cell? ⟨gr, 0, none⟩ = some (.pointer (some ⟨pt, 0, none⟩))) (by kernel_rfl) ?_ (fun hS0 => ?_)
          · exact ⟨HI5.out.hb.cell 2, HI5.out.rb.cell 0⟩
          (refine wpAnyW_take (i := 0) (v := ?_) rfl (by kernel_rfl) (by kernel_rfl) (by kernel_rfl) (by kernel_rfl) (fun _ _ _ h => h) (Or.inl ⟨by kernel_rfl, ?_⟩) (by assumption) ?_; rotate_left; focus (intro V9 hS9; go_simp; (try (with_reducible rfl)); done))
          try simp only [Act.put, List.getElem_toArray, List.getElem_cons_zero, List.setIfInBounds_toArray, List.set_cons_succ, List.set_cons_zero]
          (refine wpAnyW_take (i := 1) (v := ?_) rfl (by kernel_rfl) (by kernel_rfl) (by kernel_rfl) (by kernel_rfl) (fun _ _ _ h => h) (Or.inl ⟨by kernel_rfl, ?_⟩) (by assumption) ?_; rotate_left; focus (intro V9 hS9; obtain ⟨g0, g1⟩ := hS9; go_simp; (try (with_reducible rfl)); done))
          try simp only [Act.put, List.getElem_toArray, List.getElem_cons_succ, List.getElem_cons_zero, List.setIfInBounds_toArray, List.set_cons_succ, List.set_cons_zero]
          (refine wpAnyW_take (i := 2) (v := ?_) rfl (by kernel_rfl) (by kernel_rfl) (by kernel_rfl) (by kernel_rfl) (fun _ _ _ h => h) (Or.inl ⟨by kernel_rfl, ?_⟩) (by assumption) ?_; rotate_left; focus (intro V9 hS9; obtain ⟨g0, g1⟩ := hS9; go_simp; (try (with_reducible rfl)); done))
          try simp only [Act.put, List.getElem_toArray, List.getElem_cons_succ, List.getElem_cons_zero, List.setIfInBounds_toArray, List.set_cons_succ, List.set_cons_zero]
          refine wpAnyW_ready (rs := [3]) (by kernel_rfl) (by simp) ?_
          refine AllReadyW.cons rfl (fun K hK => ?_) AllReadyW.nil
          go_simp
          have hI5 := HI5.out.keep (Below.refl _ _).drew
          refine (tnum_any hI5.tape).mono ?_
          rintro r w6 ⟨rfl, hA⟩
          have hI6 := hI5.tact hA
          rw [HXN.out.2] at hI6
          rw [HXN.out.1]
          refine hK.out _ _ ⟨hI6.hb.cell 2, hI6.rb.cell 0⟩ (fun _ => ?_)
          clear hK K
          try simp only [Act.put, List.getElem_toArray, List.getElem_cons_succ, List.getElem_cons_zero, List.setIfInBounds_toArray, List.set_cons_succ, List.set_cons_zero]
          refine wpAnyW_ready (rs := [4]) (by kernel_rfl) (by simp) ?_
          refine AllReadyW.cons rfl (fun K hK => ?_) AllReadyW.nil
          go_simp
          have hIA := hI6.keep (below_alloc w6 (.cells #[.int .u64 (x : Int)] 34))
          refine hK.out _ _ ⟨hIA.hb.cell 2, hIA.rb.cell 0⟩ (fun _ => ?_)
          clear hK K
          try simp only [Act.put, List.getElem_toArray, List.getElem_cons_succ, List.getElem_cons_zero, List.setIfInBounds_toArray, List.set_cons_succ, List.set_cons_zero]
          refine wpAnyW_ready (rs := [5]) (by kernel_rfl) (by simp) ?_
          refine AllReadyW.cons rfl (fun K hK => ?_) AllReadyW.nil
          have hacl : acc.length ≤ 65536 := by omega
          refine step_appO uintsT (by kernel_rfl) (.tmp 61) (.tmp 64) rfl (gr + 1) acc.length (acc.map nv) vz hIA.orr (some ⟨w6.heap.size, 0, none⟩) 1 1 [nv x] (by rfl) (by rfl) rfl (blk_cs (Blk.new w6 _ _)) (nv_one [x]) (by unfold maxLen; omega) (by omega) hIA.hi.2.2.2.2 ?_
          intro v7 w7 ho7 hg7 hat7
          have hlo : ∀ q, vz.ownBlock = some q → gr + 1 ≤ q := fun q hq => (own_heap hIA.orr hq).1
          have hO7 := hIA.hb.grown hg7 (fun e9 => by have := hlo g e9.symm; have := hIA.hi; omega)
          have hr7 := hIA.rb.grown hg7 (fun e9 => by have := hlo gr e9.symm; omega)
          refine hK.out _ _ ⟨hO7.cell 2, hr7.cell 0⟩ (fun _ => ?_)
          clear hK K
          try simp only [Act.put, List.getElem_toArray, List.getElem_cons_succ, List.getElem_cons_zero, List.setIfInBounds_toArray, List.set_cons_succ, List.set_cons_zero]
          obtain ⟨A7, c7, rfl⟩ := own_sl ho7
          (refine wpAnyW_take (i := 6) (v := ?_) rfl (by kernel_rfl) (by kernel_rfl) (by kernel_rfl) (by kernel_rfl) (fun _ _ _ h => h) (Or.inl ⟨by kernel_rfl, ?_⟩) (by assumption) ?_; rotate_left; focus (intro V9 hS9; go_simp; (try (with_reducible rfl)); done))
          try simp only [Act.put, List.getElem_toArray, List.getElem_cons_succ, List.getElem_cons_zero, List.setIfInBounds_toArray, List.set_cons_succ, List.set_cons_zero]
          refine wpAnyW_ready (rs := [7]) (by kernel_rfl) (by simp) ?_
          refine AllReadyW.consE rfl (by kernel_rfl) (fun K hK => ?_) AllReadyW.nil
          have hfz := hO7.frozen 2
          have gc := hO7.cell 2
          go_simp
          refine hK.out _ _ ?_
          clear hK K
          refine wpAnyW_done (by kernel_rfl) ?_ _
          have hEND := Lib.hid (hIA.setR (xs := acc ++ [x]) (by simpa using ho7) hg7 hat7 (fun y hy => by rcases List.mem_append.1 hy with h9 | h9; exact hIA.r64 y h9; rw [List.mem_singleton.1 h9]; exact hlt))
          clear hfz gc hO7 hr7 ho7 hg7 hat7 hIA hI6 hI5 hA hS0 hlo
          go_wp2
          go_roundw
          case rel => exact ⟨m, tn, acc ++ [x], _, by first | rfl | (congr 1; omega) | simp, by omega, by simp; omega, HA.out, HT.out, hEND.out⟩
          case measure => first | (simp [intOf]; done) | (simp [intOf]; omega)
      case rest =>
        obtain ⟨vr, hI⟩ := hcut
        have HI4 := Lib.hid hI
        clear hI HI
        have hRR : R = if e3 = 0 ∧ T3.end_ = 0 then some (L1, L2, L3) else none := by
          rw [← HR.out]
          unfold getP
          simp only [HC1.out, HL1.out, HC2.out, HLN.out, HL2.out, HC3.out, HL3.out]
        have HRR := Lib.hid hRR
        have HTE := Lib.hid (tend_any HI4.out.tape)
        obtain ⟨te, hte⟩ : ∃ te, T3.end_ = te := ⟨_, rfl⟩
        rw [hte] at HTE HRR
        clear hRR hte
        have r0 : wc.cell? ⟨gr, 0, none⟩ = some (.pointer (some ⟨pt, 0, none⟩)) := HI4.out.rb.cell 0
        have hfin : Hid (∀ (V : World), Below wc.heap.size wc V → GI W (gr + 1) g (g + 1) gr pt B cB vw va vr L1 L2 L3 T3 e3 V) := Lib.hid fun V hV => HI4.out.keep hV
        have hnone : Hid (∀ V, GI W (gr + 1) g (g + 1) gr pt B cB vw va vr L1 L2 L3 T3 e3 V → Below W.heap.size W ((((V.setCell ⟨g, 0, none⟩ (.slice none 0 0)).setCell ⟨g, 1, none⟩ (.slice none 0 0)).setCell ⟨g, 2, none⟩ (.slice none 0 0)).setCell ⟨g + 1, 0, none⟩ (.int .i64 90))) := Lib.hid fun V h => h.old.trans (((fr_set3 V g (.slice none 0 0) (.slice none 0 0) (.slice none 0 0)).below h.old.size (fun k hk => by rw [hk]; exact h.lo.2.1)).trans ((Fr.setCell (fun k => k = g + 1) _ (p := ⟨g + 1, 0, none⟩) (fun _ => rfl) _).below (Nat.le_trans h.old.size (fr_set3 V g (.slice none 0 0) (.slice none 0 0) (.slice none 0 0)).size) (fun k hk => by rw [hk]; exact h.lo.2.2.1)))
        by_cases he : e3 = 0
        · subst he
          have z0 : wc.cell? ⟨g + 1, 0, none⟩ = some (.int .i64 0) := HI4.out.eb.cell 0
          by_cases ht : te = 0
          · subst ht
            rw [if_pos ⟨rfl, rfl⟩] at HRR
            have HTE : Hid (Calls Try.prog 47 #[.pointer (some ⟨pt, 0, none⟩)] wc fun r w' => r = .returned (.int .i64 0) ∧ ∃ q, w' = wc.drewN q) := HTE
            go_upto_region 18 with (go_at_call 47; refine HTE.out.mono ?_; rintro e w9 ⟨rfl, q, rfl⟩)
            refine wp_world (fun V => GI W (gr + 1) g (g + 1) gr pt B cB vw va vr L1 L2 L3 T3 0 V) (hfin.out _ (below_drewN (Below.refl _ _) q)) ?_
            rintro V9 hI
            obtain ⟨Aw, cw, hw9⟩ := own_sl hI.ow
            obtain ⟨Aa, ca, ha9⟩ := own_sl hI.oa
            obtain ⟨Ar, cr, hr9⟩ := own_sl hI.orr
            subst hw9 ha9 hr9
            have HI9 := Lib.hid hI
            have x0 := hI.hb.cell 0
            have x1 := hI.hb.cell 1
            have x2 := hI.hb.cell 2
            have f0 := hI.hb.frozen 0
            have f1 := hI.hb.frozen 1
            have f2 := hI.hb.frozen 2
            have ef := hI.eb.frozen 0
            have ec := hI.eb.cell 0
            clear hI
            obtain ⟨m1, hm1⟩ : ∃ m, L1.length = m := ⟨_, rfl⟩
            obtain ⟨m2, hm2⟩ : ∃ m, L2.length = m := ⟨_, rfl⟩
            obtain ⟨m3, hm3⟩ : ∃ m, L3.length = m := ⟨_, rfl⟩
            have HM := Lib.hid (And.intro hm1 (And.intro hm2 hm3))
            rw [hm1] at x0
            rw [hm2] at x1
            rw [hm3] at x2
            clear hm1 hm2 hm3 z0
            go_wp2
            have hB2 := HI9.out.hb.set3 (.slice Aw m1 cw) (.slice Aa m2 ca) (.slice Ar m3 cr)
            have hE2 := ((((HI9.out.eb.far (p := ⟨g, 0, none⟩) (Ne.symm HI9.out.ne.2.2.2.1) (.slice Aw m1 cw)).far (p := ⟨g, 1, none⟩) (Ne.symm HI9.out.ne.2.2.2.1) (.slice Aa m2 ca)).far (p := ⟨g, 2, none⟩) (Ne.symm HI9.out.ne.2.2.2.1) (.slice Ar m3 cr)).set_ 0 (.int .i64 0))
            have hB3 := hB2.far (p := ⟨g + 1, 0, none⟩) HI9.out.ne.2.2.2.1 (.int .i64 0)
            have y0 := hB3.cell 0
            have y1 := hB3.cell 1
            have y2 := hB3.cell 2
            have y3 := hE2.cell 0
            refine bodyPost_ret (v := .tuple #[.agg #[.slice Aw m1 cw, .slice Aa m2 ca, .slice Ar m3 cr], .int .i64 0]) (by simp [results, Try.results23, go_sem, y0, y1, y2, y3]) rfl ?_
            have hf1 := fr_set3 V9 g (.slice Aw m1 cw) (.slice Aa m2 ca) (.slice Ar m3 cr)
            have hf : Fr (fun k => k = g ∨ k = g + 1) V9 ((((V9.setCell ⟨g, 0, none⟩ (.slice Aw m1 cw)).setCell ⟨g, 1, none⟩ (.slice Aa m2 ca)).setCell ⟨g, 2, none⟩ (.slice Ar m3 cr)).setCell ⟨g + 1, 0, none⟩ (.int .i64 0)) := (hf1.weak (fun _ _ h => .inl h)).same (Fr.setCell _ _ (p := ⟨g + 1, 0, none⟩) (fun _ => .inr rfl) _)
            have hI9 := HI9.out
            obtain ⟨i1, i2, i3, i4, i5⟩ := hI9.hi
            refine ⟨hI9.old.trans (hf.below hI9.old.size (fun k hk => by rcases hk with rfl | rfl; exact hI9.lo.2.1; exact hI9.lo.2.2.1)), fun h9 => (by rw [HRR.out] at h9; cases h9), fun ws nm rs h9 => ?_⟩
            rw [HRR.out] at h9
            cases h9
            obtain ⟨hm1, hm2, hm3⟩ := HM.out
            have hrow : ∀ {e' n : Nat} {u : Value} {cs : List Value}, V9.ownsRow (gr + 1) e' 1 u n cs → ((((V9.setCell ⟨g, 0, none⟩ (.slice Aw m1 cw)).setCell ⟨g, 1, none⟩ (.slice Aa m2 ca)).setCell ⟨g, 2, none⟩ (.slice Ar m3 cr)).setCell ⟨g + 1, 0, none⟩ (.int .i64 0)).ownsRow (gr + 1) e' 1 u n cs := fun hu => own_at hu fun k hk => hf.block k (own_heap hu hk).2.1 (fun e9 => by have := (own_heap hu hk).1; omega)
            refine ⟨Aw, cw, Aa, ca, Ar, cr, by rw [hm1, hm2, hm3], ?_⟩
            have ow := hrow hI9.ow
            have oa := hrow hI9.oa
            have orr := hrow hI9.orr
            exact { w := rdc_own ow, a := rdc_own oa, r := rdc_own orr, hlw := rfl, hla := rfl, hlr := rfl, hcw := own_caps ow, hca := own_caps oa, hcr := own_caps orr, w64 := hI9.w64, r64 := hI9.r64 }
          · rw [if_neg (fun h9 => ht h9.2)] at HRR
            have d2 : ((te : Int) != 0) = true := by simp; omega
            go_upto_region 17 with (go_at_call 47; refine HTE.out.mono ?_; rintro e w9 ⟨rfl, q, rfl⟩)
            refine wp_world (fun V => GI W (gr + 1) g (g + 1) gr pt B cB vw va vr L1 L2 L3 T3 0 V) (hfin.out _ (below_drewN (Below.refl _ _) q)) ?_
            rintro V9 hI
            have HI9 := Lib.hid hI
            have f0 := hI.hb.frozen 0
            have f1 := hI.hb.frozen 1
            have f2 := hI.hb.frozen 2
            have x0 := hI.hb.cell 0
            have x1 := hI.hb.cell 1
            have x2 := hI.hb.cell 2
            have ef := hI.eb.frozen 0
            have ec := hI.eb.cell 0
            clear hI r0 z0
            go_wp2
            have hB3 := (HI9.out.hb.set3 (.slice none 0 0) (.slice none 0 0) (.slice none 0 0)).far (p := ⟨g + 1, 0, none⟩) HI9.out.ne.2.2.2.1 (.int .i64 90)
            have hE2 := ((((HI9.out.eb.far (p := ⟨g, 0, none⟩) (Ne.symm HI9.out.ne.2.2.2.1) (.slice none 0 0)).far (p := ⟨g, 1, none⟩) (Ne.symm HI9.out.ne.2.2.2.1) (.slice none 0 0)).far (p := ⟨g, 2, none⟩) (Ne.symm HI9.out.ne.2.2.2.1) (.slice none 0 0)).set_ 0 (.int .i64 90))
            have y0 := hB3.cell 0
            have y1 := hB3.cell 1
            have y2 := hB3.cell 2
            have y3 := hE2.cell 0
            refine bodyPost_ret (v := .tuple #[.agg #[.slice none 0 0, .slice none 0 0, .slice none 0 0], .int .i64 90]) (by simp [results, Try.results23, go_sem, y0, y1, y2, y3]) rfl ?_
            exact ⟨hnone.out _ HI9.out, fun _ => rfl, fun ws nm rs h9 => (by rw [HRR.out] at h9; cases h9)⟩
        · rw [if_neg (fun h9 => he h9.1)] at HRR
          have z0 : wc.cell? ⟨g + 1, 0, none⟩ = some (.int .i64 (e3 : Int)) := HI4.out.eb.cell 0
          have d2 : ((e3 : Int) != 0) = true := by simp; omega
          go_upto_region 17 with (fail)
          refine wp_world (fun V => GI W (gr + 1) g (g + 1) gr pt B cB vw va vr L1 L2 L3 T3 e3 V) HI4.out ?_
          rintro V9 hI
          have HI9 := Lib.hid hI
          have f0 := hI.hb.frozen 0
          have f1 := hI.hb.frozen 1
          have f2 := hI.hb.frozen 2
          have x0 := hI.hb.cell 0
          have x1 := hI.hb.cell 1
          have x2 := hI.hb.cell 2
          have ef := hI.eb.frozen 0
          have ec := hI.eb.cell 0
          clear hI r0 z0
          go_wp2
          have hB3 := (HI9.out.hb.set3 (.slice none 0 0) (.slice none 0 0) (.slice none 0 0)).far (p := ⟨g + 1, 0, none⟩) HI9.out.ne.2.2.2.1 (.int .i64 90)
          have hE2 := ((((HI9.out.eb.far (p := ⟨g, 0, none⟩) (Ne.symm HI9.out.ne.2.2.2.1) (.slice none 0 0)).far (p := ⟨g, 1, none⟩) (Ne.symm HI9.out.ne.2.2.2.1) (.slice none 0 0)).far (p := ⟨g, 2, none⟩) (Ne.symm HI9.out.ne.2.2.2.1) (.slice none 0 0)).set_ 0 (.int .i64 90))
          have y0 := hB3.cell 0
          have y1 := hB3.cell 1
          have y2 := hB3.cell 2
          have y3 := hE2.cell 0
          refine bodyPost_ret (v := .tuple #[.agg #[.slice none 0 0, .slice none 0 0, .slice none 0 0], .int .i64 90]) (by simp [results, Try.results23, go_sem, y0, y1, y2, y3]) rfl ?_
          exact ⟨hnone.out _ HI9.out, fun _ => rfl, fun ws nm rs h9 => (by rw [HRR.out] at h9; cases h9)⟩
end
end Go.Proofs.Ytefnjplfemgibaa
