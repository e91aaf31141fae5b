/- Links (layer 18): the document's Link. -/
import Derived.Test.YtpfikhamokjdjaaLrB
namespace Go.Proofs.Ytpfikhamokjdjaa
open Go.RowKit Go.Sort
set_option linter.unusedVariables false

theorem own_at9x {W : World} {base e k n c : Nat} {A : Addr} {xs : List Value} (h : W.ownsRow base e k (.slice (some A) n c) n xs) : ∃ g, A = ⟨g, 0, none⟩ ∧ n ≤ c := by
  rcases own_form9 h with ⟨h1, _⟩ | ⟨g', c', h1, h2, _⟩
  · cases h1
  · obtain ⟨h3, _, rfl⟩ := Value.slice.inj h1
    exact ⟨g', Option.some.inj h3, h2⟩
section
variable {W V : World} {B pr cP cW : Nat} {AP AW : Option Addr} {P : PL} {M : WL}
set_option maxRecDepth 100000 in
set_option maxHeartbeats 8000000 in
theorem rlink_v (h : RK W B pr AP cP AW cW P M) (hB : B ≤ W.heap.size) (a b : Int) (hl : P.length ≤ 400000) :
    Calls Try.prog 21 #[.pointer (some ⟨pr, 0, none⟩), .int .i64 a, .int .i64 b] W (RLEnd W B pr (.bool (!(thereP P (pairN a b) || decide (a = b)))) (if (thereP P (pairN a b) || decide (a = b)) = true then P else P.take (cutN (lessP (pairN a b)) P) ++ [pairN a b] ++ P.drop (cutN (lessP (pairN a b)) P)) M) := by
  have HPV := Lib.hid (fun W => rpair_v a b W)
  obtain ⟨p, hp⟩ : ∃ p, pairN a b = p := ⟨_, rfl⟩
  rw [hp] at HPV ⊢
  have HFD := Lib.hid (fun V (hb : Below W.heap.size W V) => rfind_v (h.keep hb) p (by omega))
  have HH := Lib.hid h
  have HB := Lib.hid hB
  obtain ⟨n, hn⟩ : ∃ n, P.length = n := ⟨_, rfl⟩
  have HN := Lib.hid hn
  have hkn : cutN (lessP p) P ≤ n := by rw [← hn]; exact cut_le
  rw [hn] at hl
  cases hno : (thereP P p || decide (a = b)) with
  | true =>
    have HE := Lib.hid (show (if (true : Bool) = true then P else P.take (cutN (lessP p) P) ++ [p] ++ P.drop (cutN (lessP p) P)) = P from if_pos rfl)
    rw [HE.out]
    obtain ⟨x, y⟩ := p
    clear h hB hn hp HE hkn
    cases hth : thereP P (x, y) with
    | true =>
      rw [hth] at HFD
      clear hth hno
      go_enter Try.func21, Try.ntmps21
      go_wp2_with (first
        | (go_at_call 39; refine (HPV.out W).mono ?_; rintro e w1 ⟨rfl, hb1⟩; unfold pv; have HB1 := Lib.hid hb1; clear hb1)
        | (go_at_call 38; refine (HFD.out _ HB1.out).mono ?_; rintro e w2 ⟨rfl, hb2⟩; have HB2 := Lib.hid (below_step HB1.out hb2); clear hb2))
      go_ret
      exact ⟨rfl, _, _, _, _, HH.out.keep HB2.out, Fr.of_below HB2.out _⟩
    | false =>
      have hab : (a == b) = true := by rw [hth] at hno; simpa using hno
      rw [hth] at HFD
      clear hth hno
      go_enter Try.func21, Try.ntmps21
      go_wp2_with (first
        | (go_at_call 39; refine (HPV.out W).mono ?_; rintro e w1 ⟨rfl, hb1⟩; unfold pv; have HB1 := Lib.hid hb1; clear hb1)
        | (go_at_call 38; refine (HFD.out _ HB1.out).mono ?_; rintro e w2 ⟨rfl, hb2⟩; have HB2 := Lib.hid (below_step HB1.out hb2); clear hb2))
      go_ret
      exact ⟨rfl, _, _, _, _, HH.out.keep HB2.out, Fr.of_below HB2.out _⟩
  | false =>
    have hth : thereP P p = false := by rw [Bool.or_eq_false_iff] at hno; exact hno.1
    have hab : (a == b) = false := by rw [Bool.or_eq_false_iff] at hno; simpa using hno.2
    rw [hth] at HFD
    have HE := Lib.hid (show (if (false : Bool) = true then P else P.take (cutN (lessP p) P) ++ [p] ++ P.drop (cutN (lessP p) P)) = P.take (cutN (lessP p) P) ++ [p] ++ P.drop (cutN (lessP p) P) from if_neg (by decide))
    rw [HE.out]
    clear hth hno HE
    generalize cutN (lessP p) P = k at HFD hkn ⊢
    obtain ⟨x, y⟩ := p
    clear hB hn hp
    cases AP with
    | none =>
      have hz : n = 0 ∧ cP = 0 := by
        have h9 := h.p
        rw [HN.out] at h9
        rcases h9.2 with ⟨hv, hz⟩ | ⟨g, cap', cur, hv, _⟩
        · exact ⟨(Value.slice.inj hv).2.1, (Value.slice.inj hv).2.2⟩
        · have := (Value.slice.inj hv).1
          cases this
      have hnc : n ≤ cP := by omega
      have hcm : cP ≤ 9223372036854775807 := by omega
      have hP0 : P = [] := List.eq_nil_of_length_eq_zero (by rw [HN.out]; exact hz.1)
      have HP0 := Lib.hid hP0
      clear h hP0 hz
      go_enter Try.func21, Try.ntmps21
      go_upto_region 4 with (first
        | (go_at_call 39; refine (HPV.out W).mono ?_; rintro e w1 ⟨rfl, hb1⟩; unfold pv; have HB1 := Lib.hid hb1; clear hb1)
        | (go_at_call 38; refine (HFD.out _ HB1.out).mono ?_; rintro e w2 ⟨rfl, hb2⟩; have HB2 := Lib.hid (below_step HB1.out hb2); clear hb2))
      refine wp_world (fun V => Below W.heap.size W V) HB2.out ?_
      clear HB1 HB2 HFD
      rintro V0 hbV
      have HBV := Lib.hid hbV
      have HRK := Lib.hid (HH.out.keep hbV)
      have HB0 := Lib.hid (Nat.le_trans HB.out hbV.size)
      clear hbV
      have HC2 : Hid (∀ V, Below V0.heap.size V0 V → Cs V none ((P.take k).flatMap encP)) := fun V _ => .inl (by rw [HP0.out]; simp)
      have HC3 : Hid (∀ V, Below V0.heap.size V0 V → Cs V none ((P.drop k).flatMap encP)) := fun V _ => .inl (by rw [HP0.out]; simp)
      have HSC : Hid (∀ V, Below V0.heap.size V0 V → V.cell? ⟨pr, 0, none⟩ = some (.slice none n cP)) := fun V hV => by rw [← HN.out]; exact (HRK.out.keep hV).obj.cell 0
      have HPF : Hid (∀ V, Below V0.heap.size V0 V → V.frozen? ⟨pr, 0, none⟩ = false) := fun V hV => (HRK.out.keep hV).obj.frozen 0
      have HL2 := Lib.hid (show (((P.take k).flatMap encP)).length = k * 2 by rw [flat_len (enc := encP) (k := 2) (fun _ => rfl), List.length_take, HN.out, Nat.min_eq_left (by omega)])
      have HL3 := Lib.hid (show (((P.drop k).flatMap encP)).length = (n - k) * 2 by rw [flat_len (enc := encP) (k := 2) (fun _ => rfl), List.length_drop, HN.out])
      have HMM := Lib.hid (show 0 + k + 1 + (n - k) = n + 1 by omega)
      have hplt := HRK.out.obj.lt
      have hic : k ≤ cP := by omega
      have y0 : (0 : Int) ≤ (k : Int) := by omega
      have y2 : (k : Int) ≤ (n : Int) := by omega
      have qi : (k : Int) ≤ (cP : Int) := by omega
      refine wp_region_W 23 (fun V => Below V0.heap.size V0 V) (by kernel_rfl) ?_ (fun hS0 => ?_)
      · exact (Below.refl _ _).drew
      (refine wpAnyW_take (i := 0) (v := ?_) rfl (by kernel_rfl) (by kernel_rfl) (by kernel_rfl) (by kernel_rfl) (fun _ _ _ h => h) (Or.inl ⟨by kernel_rfl, ?_⟩) (by assumption) ?_; rotate_left; focus (intro V9 hS9; go_simp; (try (with_reducible rfl)); done))
      try simp only [Act.put, List.getElem_toArray, List.getElem_cons_zero, List.setIfInBounds_toArray, List.set_cons_succ, List.set_cons_zero]
      (refine wpAnyW_take (i := 2) (v := ?_) rfl (by kernel_rfl) (by kernel_rfl) (by kernel_rfl) (by kernel_rfl) (fun _ _ _ h => h) (Or.inl ⟨by kernel_rfl, ?_⟩) (by assumption) ?_; rotate_left; focus (intro V9 hS9; go_simp; (try (with_reducible rfl)); done))
      try simp only [Act.put, List.getElem_toArray, List.getElem_cons_succ, List.getElem_cons_zero, List.setIfInBounds_toArray, List.set_cons_succ, List.set_cons_zero]
      (refine wpAnyW_take (i := 3) (v := ?_) rfl (by kernel_rfl) (by kernel_rfl) (by kernel_rfl) (by kernel_rfl) (fun _ _ _ h => h) (Or.inl ⟨by kernel_rfl, ?_⟩) (by assumption) ?_; rotate_left; focus (intro V9 hS9; go_simp; (try (with_reducible rfl)); done))
      try simp only [Act.put, List.getElem_toArray, List.getElem_cons_succ, List.getElem_cons_zero, List.setIfInBounds_toArray, List.set_cons_succ, List.set_cons_zero]
      (refine wpAnyW_take (i := 4) (v := ?_) rfl (by kernel_rfl) (by kernel_rfl) (by kernel_rfl) (by kernel_rfl) (fun _ _ _ h => h) (Or.inl ⟨by kernel_rfl, ?_⟩) (by assumption) ?_; rotate_left; focus (intro V9 hS9; go_simp; (try (with_reducible rfl)); done))
      try simp only [Act.put, List.getElem_toArray, List.getElem_cons_succ, List.getElem_cons_zero, List.setIfInBounds_toArray, List.set_cons_succ, List.set_cons_zero]
      (refine wpAnyW_take (i := 5) (v := ?_) rfl (by kernel_rfl) (by kernel_rfl) (by kernel_rfl) (by kernel_rfl) (fun _ _ _ h => h) (Or.inl ⟨by kernel_rfl, ?_⟩) (by assumption) ?_; rotate_left; focus (intro V9 hS9; have g0 := HSC.out V9 hS9; go_simp; (try (with_reducible rfl)); done))
      try simp only [Act.put, List.getElem_toArray, List.getElem_cons_succ, List.getElem_cons_zero, List.setIfInBounds_toArray, List.set_cons_succ, List.set_cons_zero]
      (refine wpAnyW_take (i := 6) (v := ?_) rfl (by kernel_rfl) (by kernel_rfl) (by kernel_rfl) (by kernel_rfl) (fun _ _ _ h => h) (Or.inl ⟨by kernel_rfl, ?_⟩) (by assumption) ?_; rotate_left; focus (intro V9 hS9; go_simp; (try (with_reducible rfl)); done))
      try simp only [Act.put, List.getElem_toArray, List.getElem_cons_succ, List.getElem_cons_zero, List.setIfInBounds_toArray, List.set_cons_succ, List.set_cons_zero]
      (refine wpAnyW_take (i := 7) (v := ?_) rfl (by kernel_rfl) (by kernel_rfl) (by kernel_rfl) (by kernel_rfl) (fun _ _ _ h => h) (Or.inl ⟨by kernel_rfl, ?_⟩) (by assumption) ?_; rotate_left; focus (intro V9 hS9; go_simp; (try (with_reducible rfl)); done))
      try simp only [Act.put, List.getElem_toArray, List.getElem_cons_succ, List.getElem_cons_zero, List.setIfInBounds_toArray, List.set_cons_succ, List.set_cons_zero]
      (refine wpAnyW_take (i := 9) (v := ?_) rfl (by kernel_rfl) (by kernel_rfl) (by kernel_rfl) (by kernel_rfl) (fun _ _ _ h => h) (Or.inl ⟨by kernel_rfl, ?_⟩) (by assumption) ?_; rotate_left; focus (intro V9 hS9; go_simp; (try (with_reducible rfl)); done))
      try simp only [Act.put, List.getElem_toArray, List.getElem_cons_succ, List.getElem_cons_zero, List.setIfInBounds_toArray, List.set_cons_succ, List.set_cons_zero]
      (refine wpAnyW_take (i := 10) (v := ?_) rfl (by kernel_rfl) (by kernel_rfl) (by kernel_rfl) (by kernel_rfl) (fun _ _ _ h => h) (Or.inl ⟨by kernel_rfl, ?_⟩) (by assumption) ?_; rotate_left; focus (intro V9 hS9; go_simp; (try (with_reducible rfl)); done))
      try simp only [Act.put, List.getElem_toArray, List.getElem_cons_succ, List.getElem_cons_zero, List.setIfInBounds_toArray, List.set_cons_succ, List.set_cons_zero]
      (refine wpAnyW_take (i := 14) (v := ?_) rfl (by kernel_rfl) (by kernel_rfl) (by kernel_rfl) (by kernel_rfl) (fun _ _ _ h => h) (Or.inl ⟨by kernel_rfl, ?_⟩) (by assumption) ?_; rotate_left; focus (intro V9 hS9; go_simp; (try (with_reducible rfl)); done))
      try simp only [Act.put, List.getElem_toArray, List.getElem_cons_succ, List.getElem_cons_zero, List.setIfInBounds_toArray, List.set_cons_succ, List.set_cons_zero]
      (refine wpAnyW_take (i := 15) (v := ?_) rfl (by kernel_rfl) (by kernel_rfl) (by kernel_rfl) (by kernel_rfl) (fun _ _ _ h => h) (Or.inl ⟨by kernel_rfl, ?_⟩) (by assumption) ?_; rotate_left; focus (intro V9 hS9; go_simp; (try (with_reducible rfl)); done))
      try simp only [Act.put, List.getElem_toArray, List.getElem_cons_succ, List.getElem_cons_zero, List.setIfInBounds_toArray, List.set_cons_succ, List.set_cons_zero]
      (refine wpAnyW_take (i := 16) (v := ?_) rfl (by kernel_rfl) (by kernel_rfl) (by kernel_rfl) (by kernel_rfl) (fun _ _ _ h => h) (Or.inl ⟨by kernel_rfl, ?_⟩) (by assumption) ?_; rotate_left; focus (intro V9 hS9; go_simp; (try (with_reducible rfl)); done))
      try simp only [Act.put, List.getElem_toArray, List.getElem_cons_succ, List.getElem_cons_zero, List.setIfInBounds_toArray, List.set_cons_succ, List.set_cons_zero]
      (refine wpAnyW_take (i := 17) (v := ?_) rfl (by kernel_rfl) (by kernel_rfl) (by kernel_rfl) (by kernel_rfl) (fun _ _ _ h => h) (Or.inl ⟨by kernel_rfl, ?_⟩) (by assumption) ?_; rotate_left; focus (intro V9 hS9; have g0 := HSC.out V9 hS9; go_simp; (try (with_reducible rfl)); done))
      try simp only [Act.put, List.getElem_toArray, List.getElem_cons_succ, List.getElem_cons_zero, List.setIfInBounds_toArray, List.set_cons_succ, List.set_cons_zero]
      (refine wpAnyW_take (i := 18) (v := ?_) rfl (by kernel_rfl) (by kernel_rfl) (by kernel_rfl) (by kernel_rfl) (fun _ _ _ h => h) (Or.inl ⟨by kernel_rfl, ?_⟩) (by assumption) ?_; rotate_left; focus (intro V9 hS9; go_simp; (try (with_reducible rfl)); done))
      try simp only [Act.put, List.getElem_toArray, List.getElem_cons_succ, List.getElem_cons_zero, List.setIfInBounds_toArray, List.set_cons_succ, List.set_cons_zero]
      (refine wpAnyW_take (i := 19) (v := ?_) rfl (by kernel_rfl) (by kernel_rfl) (by kernel_rfl) (by kernel_rfl) (fun _ _ _ h => h) (Or.inl ⟨by kernel_rfl, ?_⟩) (by assumption) ?_; rotate_left; focus (intro V9 hS9; go_simp; (try (with_reducible rfl)); done))
      try simp only [Act.put, List.getElem_toArray, List.getElem_cons_succ, List.getElem_cons_zero, List.setIfInBounds_toArray, List.set_cons_succ, List.set_cons_zero]
      refine wpAnyW_ready (rs := [1]) (by kernel_rfl) (by simp) ?_
      refine AllReadyW.cons rfl (fun K hK => ?_) AllReadyW.nil
      go_simp
      refine hK.out _ _ (below_step hS0 (below_alloc _ _)) (fun _ => ?_)
      clear hK K
      try simp only [Act.put, List.getElem_toArray, List.getElem_cons_succ, List.getElem_cons_zero, List.setIfInBounds_toArray, List.set_cons_succ, List.set_cons_zero]
      refine wpAnyW_world (fun V => Below V0.heap.size V0 V ∧ V.ownsRow V0.heap.size 75 2 (.slice (some ⟨V0.drew.heap.size, 0, none⟩) 0 0) 0 []) ⟨below_step hS0 (below_alloc _ _), own_made (W := V0.drew) V0.heap.size 75 2 (Below.size hS0)⟩ ?_
      rintro W1 ⟨hb1, ho1⟩
      refine wpAnyW_ready (rs := [8]) (by kernel_rfl) (by simp) ?_
      refine AllReadyW.cons rfl (fun K hK => ?_) AllReadyW.nil
      refine step_appO pairT75 (by kernel_rfl) (.tmp 24) (.tmp 30) rfl V0.heap.size 0 [] _ ho1 none k cP ((P.take k).flatMap encP) (by rfl) (by rfl) HL2.out (HC2.out _ hb1) (encP_one _) (by unfold maxLen; omega) (by omega) (Below.size hb1) ?_
      intro v2 W2 ho2 hg2 hat2
      have hb2 : Below V0.heap.size V0 W2 := own_growL ho1 hb1 hg2 (Below.size hb1)
      refine hK.out _ _ hb2 (fun _ => ?_)
      clear hK K
      try simp only [Act.put, List.getElem_toArray, List.getElem_cons_succ, List.getElem_cons_zero, List.setIfInBounds_toArray, List.set_cons_succ, List.set_cons_zero]
      refine wpAnyW_ready (rs := [11]) (by kernel_rfl) (by simp) ?_
      refine AllReadyW.cons rfl (fun K hK => ?_) AllReadyW.nil
      go_simp
      refine (HPV.out _).mono ?_
      rintro e W3 ⟨rfl, hbp3⟩
      unfold pv
      have hb3 : Below V0.heap.size V0 W3 := hb2.trans (hbp3.mono (Below.size hb2))
      have ho3 := own_bel ho2 hbp3
      refine hK.out _ _ hb3 (fun _ => ?_)
      clear hK K hbp3
      refine wpAnyW_ready (rs := [12]) (by kernel_rfl) (by simp) ?_
      refine AllReadyW.cons rfl (fun K hK => ?_) AllReadyW.nil
      go_simp
      refine hK.out _ _ (below_step hb3 (below_alloc _ _)) (fun _ => ?_)
      clear hK K
      try simp only [Act.put, List.getElem_toArray, List.getElem_cons_succ, List.getElem_cons_zero, List.setIfInBounds_toArray, List.set_cons_succ, List.set_cons_zero]
      refine wpAnyW_world (fun V => Below V0.heap.size V0 V ∧ Blk V W3.heap.size 75 #[.int .i64 x, .int .i64 y] ∧ V.ownsRow V0.heap.size 75 2 v2 (0 + k) ([] ++ ((P.take k).flatMap encP)) ∧ (v2).ownBlock ≠ some W3.heap.size) ⟨below_step hb3 (below_alloc _ _), Blk.new _ _ _, ho3.alloc _, fun e9 => Nat.lt_irrefl _ (World.ownsRow.lt ho3 _ e9).2⟩ ?_
      rintro W4 ⟨hb4, hk4, ho4, hne4⟩
      refine wpAnyW_ready (rs := [13]) (by kernel_rfl) (by simp) ?_
      refine AllReadyW.cons rfl (fun K hK => ?_) AllReadyW.nil
      refine step_appO pairT75 (by kernel_rfl) (.tmp 31) (.tmp 35) rfl V0.heap.size (0 + k) ([] ++ ((P.take k).flatMap encP)) _ ho4 _ 1 1 (encP (x, y)) (by rfl) (by rfl) rfl (cs_blk9 hk4) (by intro u hu; simp [encP] at hu; rcases hu with rfl | rfl <;> rfl) (by unfold maxLen; omega) (by omega) (Below.size hb4) ?_
      intro v9 Wx ho9 hg9 _
      have hb9 : Below V0.heap.size V0 Wx := own_growL ho4 hb4 hg9 (Below.size hb4)
      refine hK.out _ _ hb9 (fun _ => ?_)
      clear hK K
      try simp only [Act.put, List.getElem_toArray, List.getElem_cons_succ, List.getElem_cons_zero, List.setIfInBounds_toArray, List.set_cons_succ, List.set_cons_zero]
      refine wpAnyW_ready (rs := [20]) (by kernel_rfl) (by simp) ?_
      refine AllReadyW.cons rfl (fun K hK => ?_) AllReadyW.nil
      refine step_appO pairT75 (by kernel_rfl) (.tmp 36) (.tmp 42) rfl V0.heap.size (0 + k + 1) ([] ++ ((P.take k).flatMap encP) ++ encP (x, y)) v9 ho9 none (n - k) (cP - k) ((P.drop k).flatMap encP) (by rfl) (by rfl) HL3.out (HC3.out _ hb9) (encP_one _) (by unfold maxLen; omega) (by omega) (Below.size hb9) ?_
      intro v10 Wy ho10 hg10 _
      have hb10 : Below V0.heap.size V0 Wy := own_growL ho9 hb9 hg10 (Below.size hb9)
      refine hK.out _ _ hb10 (fun _ => ?_)
      clear hK K
      try simp only [Act.put, List.getElem_toArray, List.getElem_cons_succ, List.getElem_cons_zero, List.setIfInBounds_toArray, List.set_cons_succ, List.set_cons_zero]
      rw [HMM.out, List.nil_append] at ho10
      obtain ⟨A2, c2, rfl⟩ := own_slice9 ho10
      (refine wpAnyW_take (i := 21) (v := ?_) rfl (by kernel_rfl) (by kernel_rfl) (by kernel_rfl) (by kernel_rfl) (fun _ _ _ h => h) (Or.inl ⟨by kernel_rfl, ?_⟩) (by assumption) ?_; rotate_left; focus (intro V9 hS9; go_simp; (try (with_reducible rfl)); done))
      try simp only [Act.put, List.getElem_toArray, List.getElem_cons_succ, List.getElem_cons_zero, List.setIfInBounds_toArray, List.set_cons_succ, List.set_cons_zero]
      (refine wpAnyW_take (i := 22) (v := ?_) rfl (by kernel_rfl) (by kernel_rfl) (by kernel_rfl) (by kernel_rfl) (fun _ _ _ h => h) (Or.inl ⟨by kernel_rfl, ?_⟩) (by assumption) ?_; rotate_left; focus (intro V9 hS9; go_simp; (try (with_reducible rfl)); done))
      try simp only [Act.put, List.getElem_toArray, List.getElem_cons_succ, List.getElem_cons_zero, List.setIfInBounds_toArray, List.set_cons_succ, List.set_cons_zero]
      refine wpAnyW_ready (rs := [23]) (by kernel_rfl) (by simp) ?_
      refine AllReadyW.consE rfl (by kernel_rfl) (fun K hK => ?_) AllReadyW.nil
      have hfz := HPF.out Wy hb10
      have gc := HSC.out Wy hb10
      go_simp
      refine hK.out _ _ ?_
      clear hK K
      refine wpAnyW_done (by kernel_rfl) ?_ _
      have HF := Lib.hid (HRK.out.setP HB0.out hb10 (show Wy.ownsRow V0.heap.size 75 2 (.slice A2 (n + 1) c2) (n + 1) ((P.take k ++ [(x, y)] ++ P.drop k).flatMap encP) by rw [List.flatMap_append, List.flatMap_append]; simpa using ho10) (by rw [List.length_append, List.length_append, List.length_take, List.length_drop, HN.out]; simp; omega))
      clear ho10 hg10 ho9 hg9 hb9 hb10
      go_wp2
      go_ret
      exact ⟨rfl, _, _, _, _, HF.out.1, (Fr.of_below HBV.out _).same HF.out.2⟩
    | some ga =>
      obtain ⟨g, hga, hnc⟩ := own_at9x (by have h9 := h.p; rw [HN.out] at h9; exact h9)
      subst hga
      have hcm : cP ≤ 9223372036854775807 := by obtain ⟨_, _, _, _, h9⟩ := own_openK h.p; unfold maxLen at h9; omega
      clear h
      go_enter Try.func21, Try.ntmps21
      go_upto_region 4 with (first
        | (go_at_call 39; refine (HPV.out W).mono ?_; rintro e w1 ⟨rfl, hb1⟩; unfold pv; have HB1 := Lib.hid hb1; clear hb1)
        | (go_at_call 38; refine (HFD.out _ HB1.out).mono ?_; rintro e w2 ⟨rfl, hb2⟩; have HB2 := Lib.hid (below_step HB1.out hb2); clear hb2))
      refine wp_world (fun V => Below W.heap.size W V) HB2.out ?_
      clear HB1 HB2 HFD
      rintro V0 hbV
      have HBV := Lib.hid hbV
      have HRK := Lib.hid (HH.out.keep hbV)
      have HB0 := Lib.hid (Nat.le_trans HB.out hbV.size)
      clear hbV
      have hrp := HRK.out.p
      rw [HN.out] at hrp
      have HC2 := Lib.hid (own_parts (z := 2) (fun _ => rfl) hrp HN.out k).1
      obtain ⟨A3, hA3, hc3⟩ := (own_parts (z := 2) (fun _ => rfl) hrp HN.out k).2
      have HC3 := Lib.hid hc3
      clear hrp hc3
      have HSC : Hid (∀ V, Below V0.heap.size V0 V → V.cell? ⟨pr, 0, none⟩ = some (.slice (some ⟨g, 0, none⟩) n cP)) := fun V hV => by rw [← HN.out]; exact (HRK.out.keep hV).obj.cell 0
      have HPF : Hid (∀ V, Below V0.heap.size V0 V → V.frozen? ⟨pr, 0, none⟩ = false) := fun V hV => (HRK.out.keep hV).obj.frozen 0
      have HL2 := Lib.hid (show (((P.take k).flatMap encP)).length = k * 2 by rw [flat_len (enc := encP) (k := 2) (fun _ => rfl), List.length_take, HN.out, Nat.min_eq_left (by omega)])
      have HL3 := Lib.hid (show (((P.drop k).flatMap encP)).length = (n - k) * 2 by rw [flat_len (enc := encP) (k := 2) (fun _ => rfl), List.length_drop, HN.out])
      have HMM := Lib.hid (show 0 + k + 1 + (n - k) = n + 1 by omega)
      have hplt := HRK.out.obj.lt
      have hic : k ≤ cP := by omega
      have y0 : (0 : Int) ≤ (k : Int) := by omega
      have y2 : (k : Int) ≤ (n : Int) := by omega
      have qi : (k : Int) ≤ (cP : Int) := by omega
      refine wp_region_W 23 (fun V => Below V0.heap.size V0 V) (by kernel_rfl) ?_ (fun hS0 => ?_)
      · exact (Below.refl _ _).drew
      (refine wpAnyW_take (i := 0) (v := ?_) rfl (by kernel_rfl) (by kernel_rfl) (by kernel_rfl) (by kernel_rfl) (fun _ _ _ h => h) (Or.inl ⟨by kernel_rfl, ?_⟩) (by assumption) ?_; rotate_left; focus (intro V9 hS9; go_simp; (try (with_reducible rfl)); done))
      try simp only [Act.put, List.getElem_toArray, List.getElem_cons_zero, List.setIfInBounds_toArray, List.set_cons_succ, List.set_cons_zero]
      (refine wpAnyW_take (i := 2) (v := ?_) rfl (by kernel_rfl) (by kernel_rfl) (by kernel_rfl) (by kernel_rfl) (fun _ _ _ h => h) (Or.inl ⟨by kernel_rfl, ?_⟩) (by assumption) ?_; rotate_left; focus (intro V9 hS9; go_simp; (try (with_reducible rfl)); done))
      try simp only [Act.put, List.getElem_toArray, List.getElem_cons_succ, List.getElem_cons_zero, List.setIfInBounds_toArray, List.set_cons_succ, List.set_cons_zero]
      (refine wpAnyW_take (i := 3) (v := ?_) rfl (by kernel_rfl) (by kernel_rfl) (by kernel_rfl) (by kernel_rfl) (fun _ _ _ h => h) (Or.inl ⟨by kernel_rfl, ?_⟩) (by assumption) ?_; rotate_left; focus (intro V9 hS9; go_simp; (try (with_reducible rfl)); done))
      try simp only [Act.put, List.getElem_toArray, List.getElem_cons_succ, List.getElem_cons_zero, List.setIfInBounds_toArray, List.set_cons_succ, List.set_cons_zero]
      (refine wpAnyW_take (i := 4) (v := ?_) rfl (by kernel_rfl) (by kernel_rfl) (by kernel_rfl) (by kernel_rfl) (fun _ _ _ h => h) (Or.inl ⟨by kernel_rfl, ?_⟩) (by assumption) ?_; rotate_left; focus (intro V9 hS9; go_simp; (try (with_reducible rfl)); done))
      try simp only [Act.put, List.getElem_toArray, List.getElem_cons_succ, List.getElem_cons_zero, List.setIfInBounds_toArray, List.set_cons_succ, List.set_cons_zero]
      (refine wpAnyW_take (i := 5) (v := ?_) rfl (by kernel_rfl) (by kernel_rfl) (by kernel_rfl) (by kernel_rfl) (fun _ _ _ h => h) (Or.inl ⟨by kernel_rfl, ?_⟩) (by assumption) ?_; rotate_left; focus (intro V9 hS9; have g0 := HSC.out V9 hS9; go_simp; (try (with_reducible rfl)); done))
      try simp only [Act.put, List.getElem_toArray, List.getElem_cons_succ, List.getElem_cons_zero, List.setIfInBounds_toArray, List.set_cons_succ, List.set_cons_zero]
      (refine wpAnyW_take (i := 6) (v := ?_) rfl (by kernel_rfl) (by kernel_rfl) (by kernel_rfl) (by kernel_rfl) (fun _ _ _ h => h) (Or.inl ⟨by kernel_rfl, ?_⟩) (by assumption) ?_; rotate_left; focus (intro V9 hS9; go_simp; (try (with_reducible rfl)); done))
      try simp only [Act.put, List.getElem_toArray, List.getElem_cons_succ, List.getElem_cons_zero, List.setIfInBounds_toArray, List.set_cons_succ, List.set_cons_zero]
      (refine wpAnyW_take (i := 7) (v := ?_) rfl (by kernel_rfl) (by kernel_rfl) (by kernel_rfl) (by kernel_rfl) (fun _ _ _ h => h) (Or.inl ⟨by kernel_rfl, ?_⟩) (by assumption) ?_; rotate_left; focus (intro V9 hS9; go_simp; (try (with_reducible rfl)); done))
      try simp only [Act.put, List.getElem_toArray, List.getElem_cons_succ, List.getElem_cons_zero, List.setIfInBounds_toArray, List.set_cons_succ, List.set_cons_zero]
      (refine wpAnyW_take (i := 9) (v := ?_) rfl (by kernel_rfl) (by kernel_rfl) (by kernel_rfl) (by kernel_rfl) (fun _ _ _ h => h) (Or.inl ⟨by kernel_rfl, ?_⟩) (by assumption) ?_; rotate_left; focus (intro V9 hS9; go_simp; (try (with_reducible rfl)); done))
      try simp only [Act.put, List.getElem_toArray, List.getElem_cons_succ, List.getElem_cons_zero, List.setIfInBounds_toArray, List.set_cons_succ, List.set_cons_zero]
      (refine wpAnyW_take (i := 10) (v := ?_) rfl (by kernel_rfl) (by kernel_rfl) (by kernel_rfl) (by kernel_rfl) (fun _ _ _ h => h) (Or.inl ⟨by kernel_rfl, ?_⟩) (by assumption) ?_; rotate_left; focus (intro V9 hS9; go_simp; (try (with_reducible rfl)); done))
      try simp only [Act.put, List.getElem_toArray, List.getElem_cons_succ, List.getElem_cons_zero, List.setIfInBounds_toArray, List.set_cons_succ, List.set_cons_zero]
      (refine wpAnyW_take (i := 14) (v := ?_) rfl (by kernel_rfl) (by kernel_rfl) (by kernel_rfl) (by kernel_rfl) (fun _ _ _ h => h) (Or.inl ⟨by kernel_rfl, ?_⟩) (by assumption) ?_; rotate_left; focus (intro V9 hS9; go_simp; (try (with_reducible rfl)); done))
      try simp only [Act.put, List.getElem_toArray, List.getElem_cons_succ, List.getElem_cons_zero, List.setIfInBounds_toArray, List.set_cons_succ, List.set_cons_zero]
      (refine wpAnyW_take (i := 15) (v := ?_) rfl (by kernel_rfl) (by kernel_rfl) (by kernel_rfl) (by kernel_rfl) (fun _ _ _ h => h) (Or.inl ⟨by kernel_rfl, ?_⟩) (by assumption) ?_; rotate_left; focus (intro V9 hS9; go_simp; (try (with_reducible rfl)); done))
      try simp only [Act.put, List.getElem_toArray, List.getElem_cons_succ, List.getElem_cons_zero, List.setIfInBounds_toArray, List.set_cons_succ, List.set_cons_zero]
      (refine wpAnyW_take (i := 16) (v := ?_) rfl (by kernel_rfl) (by kernel_rfl) (by kernel_rfl) (by kernel_rfl) (fun _ _ _ h => h) (Or.inl ⟨by kernel_rfl, ?_⟩) (by assumption) ?_; rotate_left; focus (intro V9 hS9; go_simp; (try (with_reducible rfl)); done))
      try simp only [Act.put, List.getElem_toArray, List.getElem_cons_succ, List.getElem_cons_zero, List.setIfInBounds_toArray, List.set_cons_succ, List.set_cons_zero]
      (refine wpAnyW_take (i := 17) (v := ?_) rfl (by kernel_rfl) (by kernel_rfl) (by kernel_rfl) (by kernel_rfl) (fun _ _ _ h => h) (Or.inl ⟨by kernel_rfl, ?_⟩) (by assumption) ?_; rotate_left; focus (intro V9 hS9; have g0 := HSC.out V9 hS9; go_simp; (try (with_reducible rfl)); done))
      try simp only [Act.put, List.getElem_toArray, List.getElem_cons_succ, List.getElem_cons_zero, List.setIfInBounds_toArray, List.set_cons_succ, List.set_cons_zero]
      (refine wpAnyW_take (i := 18) (v := ?_) rfl (by kernel_rfl) (by kernel_rfl) (by kernel_rfl) (by kernel_rfl) (fun _ _ _ h => h) (Or.inl ⟨by kernel_rfl, ?_⟩) (by assumption) ?_; rotate_left; focus (intro V9 hS9; go_simp; (try (with_reducible rfl)); done))
      try simp only [Act.put, List.getElem_toArray, List.getElem_cons_succ, List.getElem_cons_zero, List.setIfInBounds_toArray, List.set_cons_succ, List.set_cons_zero]
      (refine wpAnyW_take (i := 19) (v := ?_) rfl (by kernel_rfl) (by kernel_rfl) (by kernel_rfl) (by kernel_rfl) (fun _ _ _ h => h) (Or.inl ⟨by kernel_rfl, ?_⟩) (by assumption) ?_; rotate_left; focus (intro V9 hS9; go_simp; (try (with_reducible rfl)); done))
      try simp only [Act.put, List.getElem_toArray, List.getElem_cons_succ, List.getElem_cons_zero, List.setIfInBounds_toArray, List.set_cons_succ, List.set_cons_zero]
      refine wpAnyW_ready (rs := [1]) (by kernel_rfl) (by simp) ?_
      refine AllReadyW.cons rfl (fun K hK => ?_) AllReadyW.nil
      go_simp
      refine hK.out _ _ (below_step hS0 (below_alloc _ _)) (fun _ => ?_)
      clear hK K
      try simp only [Act.put, List.getElem_toArray, List.getElem_cons_succ, List.getElem_cons_zero, List.setIfInBounds_toArray, List.set_cons_succ, List.set_cons_zero]
      refine wpAnyW_world (fun V => Below V0.heap.size V0 V ∧ V.ownsRow V0.heap.size 75 2 (.slice (some ⟨V0.drew.heap.size, 0, none⟩) 0 0) 0 []) ⟨below_step hS0 (below_alloc _ _), own_made (W := V0.drew) V0.heap.size 75 2 (Below.size hS0)⟩ ?_
      rintro W1 ⟨hb1, ho1⟩
      refine wpAnyW_ready (rs := [8]) (by kernel_rfl) (by simp) ?_
      refine AllReadyW.cons rfl (fun K hK => ?_) AllReadyW.nil
      refine step_appO pairT75 (by kernel_rfl) (.tmp 24) (.tmp 30) rfl V0.heap.size 0 [] _ ho1 (some ⟨g, 0, none⟩) k cP ((P.take k).flatMap encP) (by rfl) (by rfl) HL2.out (HC2.out _ hb1) (encP_one _) (by unfold maxLen; omega) (by omega) (Below.size hb1) ?_
      intro v2 W2 ho2 hg2 hat2
      have hb2 : Below V0.heap.size V0 W2 := own_growL ho1 hb1 hg2 (Below.size hb1)
      refine hK.out _ _ hb2 (fun _ => ?_)
      clear hK K
      try simp only [Act.put, List.getElem_toArray, List.getElem_cons_succ, List.getElem_cons_zero, List.setIfInBounds_toArray, List.set_cons_succ, List.set_cons_zero]
      refine wpAnyW_ready (rs := [11]) (by kernel_rfl) (by simp) ?_
      refine AllReadyW.cons rfl (fun K hK => ?_) AllReadyW.nil
      go_simp
      refine (HPV.out _).mono ?_
      rintro e W3 ⟨rfl, hbp3⟩
      unfold pv
      have hb3 : Below V0.heap.size V0 W3 := hb2.trans (hbp3.mono (Below.size hb2))
      have ho3 := own_bel ho2 hbp3
      refine hK.out _ _ hb3 (fun _ => ?_)
      clear hK K hbp3
      refine wpAnyW_ready (rs := [12]) (by kernel_rfl) (by simp) ?_
      refine AllReadyW.cons rfl (fun K hK => ?_) AllReadyW.nil
      go_simp
      refine hK.out _ _ (below_step hb3 (below_alloc _ _)) (fun _ => ?_)
      clear hK K
      try simp only [Act.put, List.getElem_toArray, List.getElem_cons_succ, List.getElem_cons_zero, List.setIfInBounds_toArray, List.set_cons_succ, List.set_cons_zero]
      refine wpAnyW_world (fun V => Below V0.heap.size V0 V ∧ Blk V W3.heap.size 75 #[.int .i64 x, .int .i64 y] ∧ V.ownsRow V0.heap.size 75 2 v2 (0 + k) ([] ++ ((P.take k).flatMap encP)) ∧ (v2).ownBlock ≠ some W3.heap.size) ⟨below_step hb3 (below_alloc _ _), Blk.new _ _ _, ho3.alloc _, fun e9 => Nat.lt_irrefl _ (World.ownsRow.lt ho3 _ e9).2⟩ ?_
      rintro W4 ⟨hb4, hk4, ho4, hne4⟩
      refine wpAnyW_ready (rs := [13]) (by kernel_rfl) (by simp) ?_
      refine AllReadyW.cons rfl (fun K hK => ?_) AllReadyW.nil
      refine step_appO pairT75 (by kernel_rfl) (.tmp 31) (.tmp 35) rfl V0.heap.size (0 + k) ([] ++ ((P.take k).flatMap encP)) _ ho4 _ 1 1 (encP (x, y)) (by rfl) (by rfl) rfl (cs_blk9 hk4) (by intro u hu; simp [encP] at hu; rcases hu with rfl | rfl <;> rfl) (by unfold maxLen; omega) (by omega) (Below.size hb4) ?_
      intro v9 Wx ho9 hg9 _
      have hb9 : Below V0.heap.size V0 Wx := own_growL ho4 hb4 hg9 (Below.size hb4)
      refine hK.out _ _ hb9 (fun _ => ?_)
      clear hK K
      try simp only [Act.put, List.getElem_toArray, List.getElem_cons_succ, List.getElem_cons_zero, List.setIfInBounds_toArray, List.set_cons_succ, List.set_cons_zero]
      refine wpAnyW_ready (rs := [20]) (by kernel_rfl) (by simp) ?_
      refine AllReadyW.cons rfl (fun K hK => ?_) AllReadyW.nil
      refine step_appO pairT75 (by kernel_rfl) (.tmp 36) (.tmp 42) rfl V0.heap.size (0 + k + 1) ([] ++ ((P.take k).flatMap encP) ++ encP (x, y)) v9 ho9 (some A3) (n - k) (cP - k) ((P.drop k).flatMap encP) (by rfl) (by rfl) HL3.out (HC3.out _ hb9) (encP_one _) (by unfold maxLen; omega) (by omega) (Below.size hb9) ?_
      intro v10 Wy ho10 hg10 _
      have hb10 : Below V0.heap.size V0 Wy := own_growL ho9 hb9 hg10 (Below.size hb9)
      refine hK.out _ _ hb10 (fun _ => ?_)
      clear hK K
      try simp only [Act.put, List.getElem_toArray, List.getElem_cons_succ, List.getElem_cons_zero, List.setIfInBounds_toArray, List.set_cons_succ, List.set_cons_zero]
      rw [HMM.out, List.nil_append] at ho10
      obtain ⟨A2, c2, rfl⟩ := own_slice9 ho10
      (refine wpAnyW_take (i := 21) (v := ?_) rfl (by kernel_rfl) (by kernel_rfl) (by kernel_rfl) (by kernel_rfl) (fun _ _ _ h => h) (Or.inl ⟨by kernel_rfl, ?_⟩) (by assumption) ?_; rotate_left; focus (intro V9 hS9; go_simp; (try (with_reducible rfl)); done))
      try simp only [Act.put, List.getElem_toArray, List.getElem_cons_succ, List.getElem_cons_zero, List.setIfInBounds_toArray, List.set_cons_succ, List.set_cons_zero]
      (refine wpAnyW_take (i := 22) (v := ?_) rfl (by kernel_rfl) (by kernel_rfl) (by kernel_rfl) (by kernel_rfl) (fun _ _ _ h => h) (Or.inl ⟨by kernel_rfl, ?_⟩) (by assumption) ?_; rotate_left; focus (intro V9 hS9; go_simp; (try (with_reducible rfl)); done))
      try simp only [Act.put, List.getElem_toArray, List.getElem_cons_succ, List.getElem_cons_zero, List.setIfInBounds_toArray, List.set_cons_succ, List.set_cons_zero]
      refine wpAnyW_ready (rs := [23]) (by kernel_rfl) (by simp) ?_
      refine AllReadyW.consE rfl (by kernel_rfl) (fun K hK => ?_) AllReadyW.nil
      have hfz := HPF.out Wy hb10
      have gc := HSC.out Wy hb10
      go_simp
      refine hK.out _ _ ?_
      clear hK K
      refine wpAnyW_done (by kernel_rfl) ?_ _
      have HF := Lib.hid (HRK.out.setP HB0.out hb10 (show Wy.ownsRow V0.heap.size 75 2 (.slice A2 (n + 1) c2) (n + 1) ((P.take k ++ [(x, y)] ++ P.drop k).flatMap encP) by rw [List.flatMap_append, List.flatMap_append]; simpa using ho10) (by rw [List.length_append, List.length_append, List.length_take, List.length_drop, HN.out]; simp; omega))
      clear ho10 hg10 ho9 hg9 hb9 hb10
      go_wp2
      go_ret
      exact ⟨rfl, _, _, _, _, HF.out.1, (Fr.of_below HBV.out _).same HF.out.2⟩
end
end Go.Proofs.Ytpfikhamokjdjaa
