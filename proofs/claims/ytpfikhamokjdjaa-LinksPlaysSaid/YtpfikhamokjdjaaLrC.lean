/- Links (layer 18): the document's Unlink, Unwatch. -/
import Derived.Test.YtpfikhamokjdjaaLrB
namespace Go.Proofs.Ytpfikhamokjdjaa
open Go.RowKit Go.Sort
set_option linter.unusedVariables false

section
variable {W V : World} {B pr cP cW : Nat} {AP AW : Option Addr} {P : PL} {M : WL}
set_option maxRecDepth 100000 in
set_option maxHeartbeats 4000000 in
theorem runlink_v (h : RK W B pr AP cP AW cW P M) (hB : B ≤ W.heap.size) (a b : Int) (hl : P.length ≤ 400000) :
    Calls Try.prog 22 #[.pointer (some ⟨pr, 0, none⟩), .int .i64 a, .int .i64 b] W (RLEnd W B pr (.bool (thereP P (pairN a b))) (if thereP P (pairN a b) = true then P.take (cutN (lessP (pairN a b)) P) ++ P.drop (cutN (lessP (pairN a b)) P + 1) else P) M) := by
  have HPV := Lib.hid (rpair_v a b)
  obtain ⟨p, hp⟩ : ∃ p, pairN a b = p := ⟨_, rfl⟩
  rw [hp] at HPV ⊢
  have HFD := Lib.hid (fun V (hb : Below W.heap.size W V) => rfind_v (h.keep hb) p (by omega))
  have HH := Lib.hid h
  have HB := Lib.hid hB
  obtain ⟨n, hn⟩ : ∃ n, P.length = n := ⟨_, rfl⟩
  have HN := Lib.hid hn
  rw [hn] at hl
  cases hth : thereP P p with
  | false =>
    rw [hth] at HFD
    have HE := Lib.hid (show (if (false : Bool) = true then P.take (cutN (lessP p) P) ++ P.drop (cutN (lessP p) P + 1) else P) = P from if_neg (by decide))
    rw [HE.out]
    obtain ⟨x, y⟩ := p
    clear h hB hn hth hp HE
    go_enter Try.func22, Try.ntmps22
    go_wp2_with (first
      | (go_at_call 39; refine (HPV.out W).mono ?_; rintro e w1 ⟨rfl, hb1⟩; unfold pv; have HB1 := Lib.hid hb1; clear hb1)
      | (go_at_call 38; refine (HFD.out _ HB1.out).mono ?_; rintro e w2 ⟨rfl, hb2⟩; have HB2 := Lib.hid (below_step HB1.out hb2); clear hb2))
    go_ret
    exact ⟨rfl, _, _, _, _, HH.out.keep HB2.out, Fr.of_below HB2.out _⟩
  | true =>
    rw [hth] at HFD
    have hin : cutN (lessP p) P < n := by
      unfold thereP at hth
      rw [← hn]
      rcases Nat.lt_or_ge (cutN (lessP p) P) P.length with h9 | h9
      · exact h9
      · rw [List.getElem?_eq_none h9] at hth; cases hth
    have HE := Lib.hid (show (if (true : Bool) = true then P.take (cutN (lessP p) P) ++ P.drop (cutN (lessP p) P + 1) else P) = P.take (cutN (lessP p) P) ++ P.drop (cutN (lessP p) P + 1) from if_pos rfl)
    rw [HE.out]
    generalize cutN (lessP p) P = i at HFD hin ⊢
    obtain ⟨x, y⟩ := p
    obtain ⟨g, rfl, hnc⟩ := own_at9 (g := 0) (c := cP) (by have h9 := h.p; rw [hn] at h9; exact h9) (by omega)
    have hcm : cP ≤ 9223372036854775807 := by obtain ⟨_, _, _, _, h9⟩ := own_openK h.p; unfold maxLen at h9; omega
    clear h hB hn hth hp HE
    go_enter Try.func22, Try.ntmps22
    go_upto_region 3 with (first
      | (go_at_call 39; refine (HPV.out W).mono ?_; rintro e w1 ⟨rfl, hb1⟩; unfold pv; have HB1 := Lib.hid hb1; clear hb1)
      | (go_at_call 38; refine (HFD.out _ HB1.out).mono ?_; rintro e w2 ⟨rfl, hb2⟩; have HB2 := Lib.hid (below_step HB1.out hb2); clear hb2))
    refine wp_world (fun V => Below W.heap.size W V) HB2.out ?_
    clear HB1 HB2 HFD HPV
    rintro V0 hbV
    have HBV := Lib.hid hbV
    have HRK := Lib.hid (HH.out.keep hbV)
    have HB0 := Lib.hid (Nat.le_trans HB.out hbV.size)
    clear hbV
    have hrp := HRK.out.p
    rw [HN.out] at hrp
    have HC2 := Lib.hid (own_parts (z := 2) (fun _ => rfl) hrp HN.out i).1
    obtain ⟨A3, hA3, hc3⟩ := (own_parts (z := 2) (fun _ => rfl) hrp HN.out (i + 1)).2
    have HC3 := Lib.hid hc3
    clear hrp hc3
    have HSC : Hid (∀ V, Below V0.heap.size V0 V → V.cell? ⟨pr, 0, none⟩ = some (.slice (some ⟨g, 0, none⟩) n cP)) := fun V hV => by rw [← HN.out]; exact (HRK.out.keep hV).obj.cell 0
    have HPF : Hid (∀ V, Below V0.heap.size V0 V → V.frozen? ⟨pr, 0, none⟩ = false) := fun V hV => (HRK.out.keep hV).obj.frozen 0
    have HL2 := Lib.hid (show ((P.take i).flatMap encP).length = i * 2 by rw [flat_len (enc := encP) (k := 2) (fun _ => rfl), List.length_take, HN.out, Nat.min_eq_left (by omega)])
    have HL3 := Lib.hid (show ((P.drop (i + 1)).flatMap encP).length = (n - (i + 1)) * 2 by rw [flat_len (enc := encP) (k := 2) (fun _ => rfl), List.length_drop, HN.out])
    have HO0 := Lib.hid (own_made (W := V0.drew) V0.heap.size 75 2 (Nat.le_refl _))
    have HMM := Lib.hid (show 0 + i + (n - (i + 1)) = i + (n - (i + 1)) by omega)
    have hplt := HRK.out.obj.lt
    have hic : i ≤ cP := by omega
    have hjc : i + 1 ≤ cP := by omega
    have hjn : i + 1 ≤ n := by omega
    have hine : i ≠ i + 1 := by omega
    have y0 : (0 : Int) ≤ (i : Int) := by omega
    have y1 : (0 : Int) ≤ (i : Int) + 1 := by omega
    have y2 : (i : Int) + 1 ≤ (n : Int) := by omega
    have qi : (i : Int) ≤ (cP : Int) := by omega
    have qw : IntKind.i64.wrap ((i : Int) + 1) = ((i + 1 : Nat) : Int) := IntWalk.i64_in _ (by omega)
    refine wp_region_W 19 (fun V => Below V0.heap.size V0 V) (by kernel_rfl) ?_ (fun hS0 => ?_)
    · exact (Below.refl _ _).drew
    (refine wpAnyW_take (i := 0) (v := ?_) rfl (by kernel_rfl) (by kernel_rfl) (by kernel_rfl) (by kernel_rfl) (fun _ _ _ h => h) (Or.inl ⟨by kernel_rfl, ?_⟩) (by assumption) ?_; rotate_left; focus (intro V9 hS9; go_simp; (try (with_reducible rfl)); done))
    try simp only [Act.put, List.getElem_toArray, List.getElem_cons_zero, List.setIfInBounds_toArray, List.set_cons_succ, List.set_cons_zero]
    (refine wpAnyW_take (i := 2) (v := ?_) rfl (by kernel_rfl) (by kernel_rfl) (by kernel_rfl) (by kernel_rfl) (fun _ _ _ h => h) (Or.inl ⟨by kernel_rfl, ?_⟩) (by assumption) ?_; rotate_left; focus (intro V9 hS9; go_simp; (try (with_reducible rfl)); done))
    try simp only [Act.put, List.getElem_toArray, List.getElem_cons_succ, List.getElem_cons_zero, List.setIfInBounds_toArray, List.set_cons_succ, List.set_cons_zero]
    (refine wpAnyW_take (i := 3) (v := ?_) rfl (by kernel_rfl) (by kernel_rfl) (by kernel_rfl) (by kernel_rfl) (fun _ _ _ h => h) (Or.inl ⟨by kernel_rfl, ?_⟩) (by assumption) ?_; rotate_left; focus (intro V9 hS9; go_simp; (try (with_reducible rfl)); done))
    try simp only [Act.put, List.getElem_toArray, List.getElem_cons_succ, List.getElem_cons_zero, List.setIfInBounds_toArray, List.set_cons_succ, List.set_cons_zero]
    (refine wpAnyW_take (i := 4) (v := ?_) rfl (by kernel_rfl) (by kernel_rfl) (by kernel_rfl) (by kernel_rfl) (fun _ _ _ h => h) (Or.inl ⟨by kernel_rfl, ?_⟩) (by assumption) ?_; rotate_left; focus (intro V9 hS9; go_simp; (try (with_reducible rfl)); done))
    try simp only [Act.put, List.getElem_toArray, List.getElem_cons_succ, List.getElem_cons_zero, List.setIfInBounds_toArray, List.set_cons_succ, List.set_cons_zero]
    (refine wpAnyW_take (i := 5) (v := ?_) rfl (by kernel_rfl) (by kernel_rfl) (by kernel_rfl) (by kernel_rfl) (fun _ _ _ h => h) (Or.inl ⟨by kernel_rfl, ?_⟩) (by assumption) ?_; rotate_left; focus (intro V9 hS9; have g0 := HSC.out V9 hS9; go_simp; (try (with_reducible rfl)); done))
    try simp only [Act.put, List.getElem_toArray, List.getElem_cons_succ, List.getElem_cons_zero, List.setIfInBounds_toArray, List.set_cons_succ, List.set_cons_zero]
    (refine wpAnyW_take (i := 6) (v := ?_) rfl (by kernel_rfl) (by kernel_rfl) (by kernel_rfl) (by kernel_rfl) (fun _ _ _ h => h) (Or.inl ⟨by kernel_rfl, ?_⟩) (by assumption) ?_; rotate_left; focus (intro V9 hS9; go_simp; (try (with_reducible rfl)); done))
    try simp only [Act.put, List.getElem_toArray, List.getElem_cons_succ, List.getElem_cons_zero, List.setIfInBounds_toArray, List.set_cons_succ, List.set_cons_zero]
    (refine wpAnyW_take (i := 7) (v := ?_) rfl (by kernel_rfl) (by kernel_rfl) (by kernel_rfl) (by kernel_rfl) (fun _ _ _ h => h) (Or.inl ⟨by kernel_rfl, ?_⟩) (by assumption) ?_; rotate_left; focus (intro V9 hS9; go_simp; (try (with_reducible rfl)); done))
    try simp only [Act.put, List.getElem_toArray, List.getElem_cons_succ, List.getElem_cons_zero, List.setIfInBounds_toArray, List.set_cons_succ, List.set_cons_zero]
    (refine wpAnyW_take (i := 9) (v := ?_) rfl (by kernel_rfl) (by kernel_rfl) (by kernel_rfl) (by kernel_rfl) (fun _ _ _ h => h) (Or.inl ⟨by kernel_rfl, ?_⟩) (by assumption) ?_; rotate_left; focus (intro V9 hS9; go_simp; (try (with_reducible rfl)); done))
    try simp only [Act.put, List.getElem_toArray, List.getElem_cons_succ, List.getElem_cons_zero, List.setIfInBounds_toArray, List.set_cons_succ, List.set_cons_zero]
    (refine wpAnyW_take (i := 10) (v := ?_) rfl (by kernel_rfl) (by kernel_rfl) (by kernel_rfl) (by kernel_rfl) (fun _ _ _ h => h) (Or.inl ⟨by kernel_rfl, ?_⟩) (by assumption) ?_; rotate_left; focus (intro V9 hS9; go_simp; (try (with_reducible rfl)); done))
    try simp only [Act.put, List.getElem_toArray, List.getElem_cons_succ, List.getElem_cons_zero, List.setIfInBounds_toArray, List.set_cons_succ, List.set_cons_zero]
    (refine wpAnyW_take (i := 11) (v := ?_) rfl (by kernel_rfl) (by kernel_rfl) (by kernel_rfl) (by kernel_rfl) (fun _ _ _ h => h) (Or.inl ⟨by kernel_rfl, ?_⟩) (by assumption) ?_; rotate_left; focus (intro V9 hS9; go_simp; (try (with_reducible rfl)); done))
    try simp only [Act.put, List.getElem_toArray, List.getElem_cons_succ, List.getElem_cons_zero, List.setIfInBounds_toArray, List.set_cons_succ, List.set_cons_zero]
    (refine wpAnyW_take (i := 12) (v := ?_) rfl (by kernel_rfl) (by kernel_rfl) (by kernel_rfl) (by kernel_rfl) (fun _ _ _ h => h) (Or.inl ⟨by kernel_rfl, ?_⟩) (by assumption) ?_; rotate_left; focus (intro V9 hS9; have g0 := HSC.out V9 hS9; go_simp; (try (with_reducible rfl)); done))
    try simp only [Act.put, List.getElem_toArray, List.getElem_cons_succ, List.getElem_cons_zero, List.setIfInBounds_toArray, List.set_cons_succ, List.set_cons_zero]
    (refine wpAnyW_take (i := 13) (v := ?_) rfl (by kernel_rfl) (by kernel_rfl) (by kernel_rfl) (by kernel_rfl) (fun _ _ _ h => h) (Or.inl ⟨by kernel_rfl, ?_⟩) (by assumption) ?_; rotate_left; focus (intro V9 hS9; go_simp; (try (with_reducible rfl)); done))
    try simp only [Act.put, List.getElem_toArray, List.getElem_cons_succ, List.getElem_cons_zero, List.setIfInBounds_toArray, List.set_cons_succ, List.set_cons_zero]
    (refine wpAnyW_take (i := 14) (v := ?_) rfl (by kernel_rfl) (by kernel_rfl) (by kernel_rfl) (by kernel_rfl) (fun _ _ _ h => h) (Or.inl ⟨by kernel_rfl, ?_⟩) (by assumption) ?_; rotate_left; focus (intro V9 hS9; go_simp; (try (with_reducible rfl)); done))
    try simp only [Act.put, List.getElem_toArray, List.getElem_cons_succ, List.getElem_cons_zero, List.setIfInBounds_toArray, List.set_cons_succ, List.set_cons_zero]
    (refine wpAnyW_take (i := 15) (v := ?_) rfl (by kernel_rfl) (by kernel_rfl) (by kernel_rfl) (by kernel_rfl) (fun _ _ _ h => h) (Or.inl ⟨by kernel_rfl, ?_⟩) (by assumption) ?_; rotate_left; focus (intro V9 hS9; go_simp; (try (with_reducible rfl)); done))
    try simp only [Act.put, List.getElem_toArray, List.getElem_cons_succ, List.getElem_cons_zero, List.setIfInBounds_toArray, List.set_cons_succ, List.set_cons_zero]
    refine wpAnyW_ready (rs := [1]) (by kernel_rfl) (by simp) ?_
    refine AllReadyW.cons rfl (fun K hK => ?_) AllReadyW.nil
    go_simp
    refine hK.out _ _ (below_step hS0 (below_alloc _ _)) (fun _ => ?_)
    clear hK K
    try simp only [Act.put, List.getElem_toArray, List.getElem_cons_succ, List.getElem_cons_zero, List.setIfInBounds_toArray, List.set_cons_succ, List.set_cons_zero]
    refine wpAnyW_world (fun V => Below V0.heap.size V0 V ∧ V.ownsRow V0.heap.size 75 2 (.slice (some ⟨V0.heap.size, 0, none⟩) 0 0) 0 []) ⟨below_step hS0 (below_alloc _ _), HO0.out⟩ ?_
    rintro VA ⟨hbA, hoA⟩
    refine wpAnyW_ready (rs := [8]) (by kernel_rfl) (by simp) ?_
    refine AllReadyW.cons rfl (fun K hK => ?_) AllReadyW.nil
    refine step_appO pairT75 (by kernel_rfl) (.tmp 19) (.tmp 25) rfl V0.heap.size 0 [] _ hoA (some ⟨g, 0, none⟩) i cP ((P.take i).flatMap encP) (by rfl) (by rfl) HL2.out (HC2.out _ hbA) (encP_one _) (by unfold maxLen; omega) (by omega) (Below.size hbA) ?_
    intro v1 VB hoB hgB _
    have hbB : Below V0.heap.size V0 VB := own_growL hoA hbA hgB (Below.size hbA)
    refine hK.out _ _ hbB (fun _ => ?_)
    clear hK K
    try simp only [Act.put, List.getElem_toArray, List.getElem_cons_succ, List.getElem_cons_zero, List.setIfInBounds_toArray, List.set_cons_succ, List.set_cons_zero]
    refine wpAnyW_ready (rs := [16]) (by kernel_rfl) (by simp) ?_
    refine AllReadyW.cons rfl (fun K hK => ?_) AllReadyW.nil
    refine step_appO pairT75 (by kernel_rfl) (.tmp 26) (.tmp 33) rfl V0.heap.size (0 + i) ([] ++ (P.take i).flatMap encP) v1 hoB (some A3) (n - (i + 1)) (cP - (i + 1)) ((P.drop (i + 1)).flatMap encP) (by rfl) (by rfl) HL3.out (HC3.out _ hbB) (encP_one _) (by unfold maxLen; omega) (by omega) (Below.size hbB) ?_
    intro v2 VD hoD hgD _
    have hbD : Below V0.heap.size V0 VD := own_growL hoB hbB hgD (Below.size hbB)
    refine hK.out _ _ hbD (fun _ => ?_)
    clear hK K
    try simp only [Act.put, List.getElem_toArray, List.getElem_cons_succ, List.getElem_cons_zero, List.setIfInBounds_toArray, List.set_cons_succ, List.set_cons_zero]
    rw [HMM.out, List.nil_append] at hoD
    obtain ⟨A2, c2, rfl⟩ := own_slice9 hoD
    (refine wpAnyW_take (i := 17) (v := ?_) rfl (by kernel_rfl) (by kernel_rfl) (by kernel_rfl) (by kernel_rfl) (fun _ _ _ h => h) (Or.inl ⟨by kernel_rfl, ?_⟩) (by assumption) ?_; rotate_left; focus (intro V9 hS9; go_simp; (try (with_reducible rfl)); done))
    try simp only [Act.put, List.getElem_toArray, List.getElem_cons_succ, List.getElem_cons_zero, List.setIfInBounds_toArray, List.set_cons_succ, List.set_cons_zero]
    (refine wpAnyW_take (i := 18) (v := ?_) rfl (by kernel_rfl) (by kernel_rfl) (by kernel_rfl) (by kernel_rfl) (fun _ _ _ h => h) (Or.inl ⟨by kernel_rfl, ?_⟩) (by assumption) ?_; rotate_left; focus (intro V9 hS9; go_simp; (try (with_reducible rfl)); done))
    try simp only [Act.put, List.getElem_toArray, List.getElem_cons_succ, List.getElem_cons_zero, List.setIfInBounds_toArray, List.set_cons_succ, List.set_cons_zero]
    refine wpAnyW_ready (rs := [19]) (by kernel_rfl) (by simp) ?_
    refine AllReadyW.consE rfl (by kernel_rfl) (fun K hK => ?_) AllReadyW.nil
    have hfz := HPF.out VD hbD
    have gc := HSC.out VD hbD
    go_simp
    refine hK.out _ _ ?_
    clear hK K
    refine wpAnyW_done (by kernel_rfl) ?_ _
    have HF := Lib.hid (HRK.out.setP HB0.out hbD (show VD.ownsRow V0.heap.size 75 2 (.slice A2 (i + (n - (i + 1))) c2) (i + (n - (i + 1))) ((P.take i ++ P.drop (i + 1)).flatMap encP) by rw [List.flatMap_append]; exact hoD) (by rw [List.length_append, List.length_take, List.length_drop, HN.out]; omega))
    clear hoD hgD hoB hgB hoA hbA hbB hbD qw
    go_wp2
    go_ret
    exact ⟨rfl, _, _, _, _, HF.out.1, (Fr.of_below HBV.out _).same HF.out.2⟩
/-- The place of a watch of that number and of that one. -/
def atW (r f : Int) (M : WL) : Nat := (M.takeWhile fun x => !(decide (x.ref = r) && decide (x.fr = f))).length
set_option maxRecDepth 100000 in
set_option maxHeartbeats 4000000 in
theorem runwatch_v (h : RK W B pr AP cP AW cW P M) (hB : B ≤ W.heap.size) (r f : Int) (hl : M.length ≤ 400000) :
    Calls Try.prog 24 #[.pointer (some ⟨pr, 0, none⟩), .int .i64 r, .int .i64 f] W (RLEnd W B pr (.bool (decide (atW r f M < M.length))) P (if atW r f M < M.length then M.take (atW r f M) ++ M.drop (atW r f M + 1) else M)) := by
  have HH := Lib.hid h
  have HB := Lib.hid hB
  obtain ⟨n, hn⟩ : ∃ n, M.length = n := ⟨_, rfl⟩
  have HN := Lib.hid hn
  rw [hn] at hl ⊢
  obtain ⟨q, hq⟩ : ∃ q, atW r f M = q := ⟨_, rfl⟩
  have HQ := Lib.hid (show cutN (fun x : WV => !(decide (x.ref = r) && decide (x.fr = f))) M = q from hq)
  have hqn : q ≤ n := by rw [← hn, ← hq]; exact cut_le
  rw [hq]
  have m1 := h.obj.cell 1
  rw [hn] at m1
  have HRW := Lib.hid (show W.ownsRow B 33 3 (.slice AW n cW) n (M.flatMap encW) by have h9 := h.w; rw [hn] at h9; exact h9)
  obtain ⟨M', hM'⟩ : ∃ M', (if q < n then M.take q ++ M.drop (q + 1) else M) = M' := ⟨_, rfl⟩
  obtain ⟨rb, hrb⟩ : ∃ rb, decide (q < n) = rb := ⟨_, rfl⟩
  rw [hM', hrb]
  have HKE := Lib.hid hM'
  have HRB := Lib.hid hrb
  clear h hB hn hq hM' hrb
  go_enter Try.func24, Try.ntmps24
  go_wp2
  go_loopw [7] (fun v wr => ∃ i : Nat, i ≤ q ∧ v = .int .i64 (i : Int) ∧ W = wr) (fun v _ => q + 1 - (intOf v).toNat)
  case atStart => exact ⟨0, Nat.zero_le _, rfl, rfl⟩
  case round =>
    obtain ⟨i, hi, rfl, hww⟩ := hrel
    subst hww
    by_cases hlt : i < n
    · have hkl : i < M.length := by rw [HN.out]; exact hlt
      have hd8 : decide (i < n) = true := by simpa using hlt
      obtain ⟨g, rfl, hnc⟩ := own_at9 (g := 0) (c := cW) HRW.out (by omega)
      obtain ⟨z0, z1, z2⟩ := cellW HRW.out hkl HN.out
      have q1 : (0 : Int) ≤ (i : Int) := by omega
      have q2 : (i : Int) < (n : Int) := by omega
      by_cases hiq : i < q
      · have hx := (cut_lt (show i < cutN (fun x : WV => !(decide (x.ref = r) && decide (x.fr = f))) M by rw [HQ.out]; exact hiq)).2
        generalize M[i] = x at z0 z1 z2 hx
        clear hkl
        by_cases c1 : x.ref = r
        · have d1 : (x.ref == r) = true := by simpa using c1
          have d2 : (x.fr == f) = false := by simp [c1] at hx; simpa using hx
          clear c1 hx
          go_wp2
          go_roundw
          case rel => exact ⟨i + 1, hiq, by go_num, trivial⟩
          case measure => simp [intOf]; omega
        · have d1 : (x.ref == r) = false := by simpa using c1
          clear c1 hx
          go_wp2
          go_roundw
          case rel => exact ⟨i + 1, hiq, by go_num, trivial⟩
          case measure => simp [intOf]; omega
      · obtain rfl : i = q := by omega
        have hx : (!(decide (M[i].ref = r) && decide (M[i].fr = f))) = false := by
          have h9 := cut_at (f := fun x : WV => !(decide (x.ref = r) && decide (x.fr = f))) (P := M) (by rw [HQ.out]; exact hkl)
          simp only [HQ.out] at h9
          exact h9
        generalize M[i] = x at z0 z1 z2 hx
        have d1 : (x.ref == r) = true := by simp at hx; simpa using hx.1
        have d2 : (x.fr == f) = true := by simp at hx; simpa using hx.2
        obtain rfl : M.take i ++ M.drop (i + 1) = M' := by have h9 := HKE.out; rw [if_pos hlt] at h9; exact h9
        obtain rfl : true = rb := by have h9 := HRB.out; rw [decide_eq_true hlt] at h9; exact h9
        have HE := HKE
        clear HKE HRB
        have hcm : cW ≤ 9223372036854775807 := by obtain ⟨_, _, _, _, h9⟩ := own_openK HRW.out; unfold maxLen at h9; omega
        have HC2 := Lib.hid (own_parts (z := 3) (fun _ => rfl) HRW.out HN.out i).1
        obtain ⟨A3, hA3, hc3⟩ := (own_parts (z := 3) (fun _ => rfl) HRW.out HN.out (i + 1)).2
        have HC3 := Lib.hid hc3
        obtain ⟨V0, hV0⟩ : ∃ V0, V0 = W := ⟨_, rfl⟩
        subst hV0
        have HRK := HH
        have HB0 := HB
        clear hkl hc3 hx HE HQ
        go_upto_region 5 with (fail)
        clear z0 z1 z2 m1 d1 d2
        have HSC : Hid (∀ V, Below V0.heap.size V0 V → V.cell? ⟨pr, 1, none⟩ = some (.slice (some ⟨g, 0, none⟩) n cW)) := fun V hV => by rw [← HN.out]; exact (HRK.out.keep hV).obj.cell 1
        have HPF : Hid (∀ V, Below V0.heap.size V0 V → V.frozen? ⟨pr, 1, none⟩ = false) := fun V hV => (HRK.out.keep hV).obj.frozen 1
        have HL2 := Lib.hid (show ((M.take i).flatMap encW).length = i * 3 by rw [flat_len (enc := encW) (k := 3) (fun _ => rfl), List.length_take, HN.out, Nat.min_eq_left (by omega)])
        have HL3 := Lib.hid (show ((M.drop (i + 1)).flatMap encW).length = (n - (i + 1)) * 3 by rw [flat_len (enc := encW) (k := 3) (fun _ => rfl), List.length_drop, HN.out])
        have HO0 := Lib.hid (own_made (W := V0.drew) V0.heap.size 33 3 (Nat.le_refl _))
        have HMM := Lib.hid (show 0 + i + (n - (i + 1)) = i + (n - (i + 1)) by omega)
        have hplt := HRK.out.obj.lt
        have hic : i ≤ cW := by omega
        have hjc : i + 1 ≤ cW := by omega
        have hjn : i + 1 ≤ n := by omega
        have hine : i ≠ i + 1 := by omega
        have y0 : (0 : Int) ≤ (i : Int) := by omega
        have y1 : (0 : Int) ≤ (i : Int) + 1 := by omega
        have y2 : (i : Int) + 1 ≤ (n : Int) := by omega
        have qi : (i : Int) ≤ (cW : Int) := by omega
        have qw : IntKind.i64.wrap ((i : Int) + 1) = ((i + 1 : Nat) : Int) := IntWalk.i64_in _ (by omega)
        refine wp_region_W 19 (fun V => Below V0.heap.size V0 V) (by kernel_rfl) ?_ (fun hS0 => ?_)
        · exact (Below.refl _ _).drew
        (refine wpAnyW_take (i := 0) (v := ?_) rfl (by kernel_rfl) (by kernel_rfl) (by kernel_rfl) (by kernel_rfl) (fun _ _ _ h => h) (Or.inl ⟨by kernel_rfl, ?_⟩) (by assumption) ?_; rotate_left; focus (intro V9 hS9; go_simp; (try (with_reducible rfl)); done))
        try simp only [Act.put, List.getElem_toArray, List.getElem_cons_zero, List.setIfInBounds_toArray, List.set_cons_succ, List.set_cons_zero]
        (refine wpAnyW_take (i := 2) (v := ?_) rfl (by kernel_rfl) (by kernel_rfl) (by kernel_rfl) (by kernel_rfl) (fun _ _ _ h => h) (Or.inl ⟨by kernel_rfl, ?_⟩) (by assumption) ?_; rotate_left; focus (intro V9 hS9; go_simp; (try (with_reducible rfl)); done))
        try simp only [Act.put, List.getElem_toArray, List.getElem_cons_succ, List.getElem_cons_zero, List.setIfInBounds_toArray, List.set_cons_succ, List.set_cons_zero]
        (refine wpAnyW_take (i := 3) (v := ?_) rfl (by kernel_rfl) (by kernel_rfl) (by kernel_rfl) (by kernel_rfl) (fun _ _ _ h => h) (Or.inl ⟨by kernel_rfl, ?_⟩) (by assumption) ?_; rotate_left; focus (intro V9 hS9; go_simp; (try (with_reducible rfl)); done))
        try simp only [Act.put, List.getElem_toArray, List.getElem_cons_succ, List.getElem_cons_zero, List.setIfInBounds_toArray, List.set_cons_succ, List.set_cons_zero]
        (refine wpAnyW_take (i := 4) (v := ?_) rfl (by kernel_rfl) (by kernel_rfl) (by kernel_rfl) (by kernel_rfl) (fun _ _ _ h => h) (Or.inl ⟨by kernel_rfl, ?_⟩) (by assumption) ?_; rotate_left; focus (intro V9 hS9; go_simp; (try (with_reducible rfl)); done))
        try simp only [Act.put, List.getElem_toArray, List.getElem_cons_succ, List.getElem_cons_zero, List.setIfInBounds_toArray, List.set_cons_succ, List.set_cons_zero]
        (refine wpAnyW_take (i := 5) (v := ?_) rfl (by kernel_rfl) (by kernel_rfl) (by kernel_rfl) (by kernel_rfl) (fun _ _ _ h => h) (Or.inl ⟨by kernel_rfl, ?_⟩) (by assumption) ?_; rotate_left; focus (intro V9 hS9; have g0 := HSC.out V9 hS9; go_simp; (try (with_reducible rfl)); done))
        try simp only [Act.put, List.getElem_toArray, List.getElem_cons_succ, List.getElem_cons_zero, List.setIfInBounds_toArray, List.set_cons_succ, List.set_cons_zero]
        (refine wpAnyW_take (i := 6) (v := ?_) rfl (by kernel_rfl) (by kernel_rfl) (by kernel_rfl) (by kernel_rfl) (fun _ _ _ h => h) (Or.inl ⟨by kernel_rfl, ?_⟩) (by assumption) ?_; rotate_left; focus (intro V9 hS9; go_simp; (try (with_reducible rfl)); done))
        try simp only [Act.put, List.getElem_toArray, List.getElem_cons_succ, List.getElem_cons_zero, List.setIfInBounds_toArray, List.set_cons_succ, List.set_cons_zero]
        (refine wpAnyW_take (i := 7) (v := ?_) rfl (by kernel_rfl) (by kernel_rfl) (by kernel_rfl) (by kernel_rfl) (fun _ _ _ h => h) (Or.inl ⟨by kernel_rfl, ?_⟩) (by assumption) ?_; rotate_left; focus (intro V9 hS9; go_simp; (try (with_reducible rfl)); done))
        try simp only [Act.put, List.getElem_toArray, List.getElem_cons_succ, List.getElem_cons_zero, List.setIfInBounds_toArray, List.set_cons_succ, List.set_cons_zero]
        (refine wpAnyW_take (i := 9) (v := ?_) rfl (by kernel_rfl) (by kernel_rfl) (by kernel_rfl) (by kernel_rfl) (fun _ _ _ h => h) (Or.inl ⟨by kernel_rfl, ?_⟩) (by assumption) ?_; rotate_left; focus (intro V9 hS9; go_simp; (try (with_reducible rfl)); done))
        try simp only [Act.put, List.getElem_toArray, List.getElem_cons_succ, List.getElem_cons_zero, List.setIfInBounds_toArray, List.set_cons_succ, List.set_cons_zero]
        (refine wpAnyW_take (i := 10) (v := ?_) rfl (by kernel_rfl) (by kernel_rfl) (by kernel_rfl) (by kernel_rfl) (fun _ _ _ h => h) (Or.inl ⟨by kernel_rfl, ?_⟩) (by assumption) ?_; rotate_left; focus (intro V9 hS9; go_simp; (try (with_reducible rfl)); done))
        try simp only [Act.put, List.getElem_toArray, List.getElem_cons_succ, List.getElem_cons_zero, List.setIfInBounds_toArray, List.set_cons_succ, List.set_cons_zero]
        (refine wpAnyW_take (i := 11) (v := ?_) rfl (by kernel_rfl) (by kernel_rfl) (by kernel_rfl) (by kernel_rfl) (fun _ _ _ h => h) (Or.inl ⟨by kernel_rfl, ?_⟩) (by assumption) ?_; rotate_left; focus (intro V9 hS9; go_simp; (try (with_reducible rfl)); done))
        try simp only [Act.put, List.getElem_toArray, List.getElem_cons_succ, List.getElem_cons_zero, List.setIfInBounds_toArray, List.set_cons_succ, List.set_cons_zero]
        (refine wpAnyW_take (i := 12) (v := ?_) rfl (by kernel_rfl) (by kernel_rfl) (by kernel_rfl) (by kernel_rfl) (fun _ _ _ h => h) (Or.inl ⟨by kernel_rfl, ?_⟩) (by assumption) ?_; rotate_left; focus (intro V9 hS9; have g0 := HSC.out V9 hS9; go_simp; (try (with_reducible rfl)); done))
        try simp only [Act.put, List.getElem_toArray, List.getElem_cons_succ, List.getElem_cons_zero, List.setIfInBounds_toArray, List.set_cons_succ, List.set_cons_zero]
        (refine wpAnyW_take (i := 13) (v := ?_) rfl (by kernel_rfl) (by kernel_rfl) (by kernel_rfl) (by kernel_rfl) (fun _ _ _ h => h) (Or.inl ⟨by kernel_rfl, ?_⟩) (by assumption) ?_; rotate_left; focus (intro V9 hS9; go_simp; (try (with_reducible rfl)); done))
        try simp only [Act.put, List.getElem_toArray, List.getElem_cons_succ, List.getElem_cons_zero, List.setIfInBounds_toArray, List.set_cons_succ, List.set_cons_zero]
        (refine wpAnyW_take (i := 14) (v := ?_) rfl (by kernel_rfl) (by kernel_rfl) (by kernel_rfl) (by kernel_rfl) (fun _ _ _ h => h) (Or.inl ⟨by kernel_rfl, ?_⟩) (by assumption) ?_; rotate_left; focus (intro V9 hS9; go_simp; (try (with_reducible rfl)); done))
        try simp only [Act.put, List.getElem_toArray, List.getElem_cons_succ, List.getElem_cons_zero, List.setIfInBounds_toArray, List.set_cons_succ, List.set_cons_zero]
        (refine wpAnyW_take (i := 15) (v := ?_) rfl (by kernel_rfl) (by kernel_rfl) (by kernel_rfl) (by kernel_rfl) (fun _ _ _ h => h) (Or.inl ⟨by kernel_rfl, ?_⟩) (by assumption) ?_; rotate_left; focus (intro V9 hS9; go_simp; (try (with_reducible rfl)); done))
        try simp only [Act.put, List.getElem_toArray, List.getElem_cons_succ, List.getElem_cons_zero, List.setIfInBounds_toArray, List.set_cons_succ, List.set_cons_zero]
        refine wpAnyW_ready (rs := [1]) (by kernel_rfl) (by simp) ?_
        refine AllReadyW.cons rfl (fun K hK => ?_) AllReadyW.nil
        go_simp
        refine hK.out _ _ (below_step hS0 (below_alloc _ _)) (fun _ => ?_)
        clear hK K
        try simp only [Act.put, List.getElem_toArray, List.getElem_cons_succ, List.getElem_cons_zero, List.setIfInBounds_toArray, List.set_cons_succ, List.set_cons_zero]
        refine wpAnyW_world (fun V => Below V0.heap.size V0 V ∧ V.ownsRow V0.heap.size 33 3 (.slice (some ⟨V0.heap.size, 0, none⟩) 0 0) 0 []) ⟨below_step hS0 (below_alloc _ _), HO0.out⟩ ?_
        rintro VA ⟨hbA, hoA⟩
        refine wpAnyW_ready (rs := [8]) (by kernel_rfl) (by simp) ?_
        refine AllReadyW.cons rfl (fun K hK => ?_) AllReadyW.nil
        refine step_appO watchT (by kernel_rfl) (.tmp 40) (.tmp 46) rfl V0.heap.size 0 [] _ hoA (some ⟨g, 0, none⟩) i cW ((M.take i).flatMap encW) (by rfl) (by rfl) HL2.out (HC2.out _ hbA) (encW_one _) (by unfold maxLen; omega) (by omega) (Below.size hbA) ?_
        intro v1 VB hoB hgB _
        have hbB : Below V0.heap.size V0 VB := own_growL hoA hbA hgB (Below.size hbA)
        refine hK.out _ _ hbB (fun _ => ?_)
        clear hK K
        try simp only [Act.put, List.getElem_toArray, List.getElem_cons_succ, List.getElem_cons_zero, List.setIfInBounds_toArray, List.set_cons_succ, List.set_cons_zero]
        refine wpAnyW_ready (rs := [16]) (by kernel_rfl) (by simp) ?_
        refine AllReadyW.cons rfl (fun K hK => ?_) AllReadyW.nil
        refine step_appO watchT (by kernel_rfl) (.tmp 47) (.tmp 54) rfl V0.heap.size (0 + i) ([] ++ (M.take i).flatMap encW) v1 hoB (some A3) (n - (i + 1)) (cW - (i + 1)) ((M.drop (i + 1)).flatMap encW) (by rfl) (by rfl) HL3.out (HC3.out _ hbB) (encW_one _) (by unfold maxLen; omega) (by omega) (Below.size hbB) ?_
        intro v2 VD hoD hgD _
        have hbD : Below V0.heap.size V0 VD := own_growL hoB hbB hgD (Below.size hbB)
        refine hK.out _ _ hbD (fun _ => ?_)
        clear hK K
        try simp only [Act.put, List.getElem_toArray, List.getElem_cons_succ, List.getElem_cons_zero, List.setIfInBounds_toArray, List.set_cons_succ, List.set_cons_zero]
        rw [HMM.out, List.nil_append] at hoD
        obtain ⟨A2, c2, rfl⟩ := own_slice9 hoD
        (refine wpAnyW_take (i := 17) (v := ?_) rfl (by kernel_rfl) (by kernel_rfl) (by kernel_rfl) (by kernel_rfl) (fun _ _ _ h => h) (Or.inl ⟨by kernel_rfl, ?_⟩) (by assumption) ?_; rotate_left; focus (intro V9 hS9; go_simp; (try (with_reducible rfl)); done))
        try simp only [Act.put, List.getElem_toArray, List.getElem_cons_succ, List.getElem_cons_zero, List.setIfInBounds_toArray, List.set_cons_succ, List.set_cons_zero]
        (refine wpAnyW_take (i := 18) (v := ?_) rfl (by kernel_rfl) (by kernel_rfl) (by kernel_rfl) (by kernel_rfl) (fun _ _ _ h => h) (Or.inl ⟨by kernel_rfl, ?_⟩) (by assumption) ?_; rotate_left; focus (intro V9 hS9; go_simp; (try (with_reducible rfl)); done))
        try simp only [Act.put, List.getElem_toArray, List.getElem_cons_succ, List.getElem_cons_zero, List.setIfInBounds_toArray, List.set_cons_succ, List.set_cons_zero]
        refine wpAnyW_ready (rs := [19]) (by kernel_rfl) (by simp) ?_
        refine AllReadyW.consE rfl (by kernel_rfl) (fun K hK => ?_) AllReadyW.nil
        have hfz := HPF.out VD hbD
        have gc := HSC.out VD hbD
        go_simp
        refine hK.out _ _ ?_
        clear hK K
        refine wpAnyW_done (by kernel_rfl) ?_ _
        have HF := Lib.hid (HRK.out.setW HB0.out hbD (show VD.ownsRow V0.heap.size 33 3 (.slice A2 (i + (n - (i + 1))) c2) (i + (n - (i + 1))) ((M.take i ++ M.drop (i + 1)).flatMap encW) by rw [List.flatMap_append]; exact hoD) (by rw [List.length_append, List.length_take, List.length_drop, HN.out]; omega))
        clear hoD hgD hoB hgB hoA hbA hbB hbD qw
        go_wp2
        go_ret
        exact ⟨rfl, _, _, _, _, HF.out.1, HF.out.2⟩
    · have hd8 : decide (i < n) = false := by simpa using hlt
      have hqe : ¬ q < n := by omega
      obtain rfl : M = M' := by have h9 := HKE.out; rw [if_neg hqe] at h9; exact h9
      obtain rfl : false = rb := by have h9 := HRB.out; rw [decide_eq_false hqe] at h9; exact h9
      clear hqe HKE HRB
      go_wp2
      go_ret
      exact ⟨rfl, _, _, _, _, HH.out, Fr.refl _ _⟩
end
end Go.Proofs.Ytpfikhamokjdjaa
