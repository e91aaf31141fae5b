/- Links (layer 18): the document's Watch. -/
import Derived.Test.YtpfikhamokjdjaaLrB
namespace Go.Proofs.Ytpfikhamokjdjaa
open Go.RowKit Go.Sort
set_option linter.unusedVariables false

theorem own_at9y {W : World} {base e k n c : Nat} {A : Addr} {xs : List Value} (h : W.ownsRow base e k (.slice (some A) n c) n xs) : ∃ g, A = ⟨g, 0, none⟩ ∧ n ≤ c := by
  rcases own_form9 h with ⟨h1, _⟩ | ⟨g', c', h1, h2, _⟩
  · cases h1
  · obtain ⟨h3, _, rfl⟩ := Value.slice.inj h1
    exact ⟨g', Option.some.inj h3, h2⟩
section
variable {W V : World} {B pr cP cW : Nat} {AP AW : Option Addr} {P : PL} {M : WL}
/-- Is there one of that number? -/
def thereW (r : Int) (M : WL) : Bool := (M[cutN (lessW r) M]?).any fun y => y.ref == r
set_option maxRecDepth 100000 in
set_option maxHeartbeats 8000000 in
theorem rwatch_v (h : RK W B pr AP cP AW cW P M) (hB : B ≤ W.heap.size) (x : WV) (hl : M.length ≤ 400000) :
    Calls Try.prog 23 #[.pointer (some ⟨pr, 0, none⟩), .agg #[.int .i64 x.ref, .int .i64 x.fr, .int .i64 x.to]] W (RLEnd W B pr (.int .i64 ((if thereW x.ref M = true then 8 else 0 : Nat) : Int)) P (if thereW x.ref M = true then M else M.take (cutN (lessW x.ref) M) ++ [x] ++ M.drop (cutN (lessW x.ref) M))) := by
  have HH := Lib.hid h
  have HB := Lib.hid hB
  obtain ⟨n, hn⟩ : ∃ n, M.length = n := ⟨_, rfl⟩
  have HN := Lib.hid hn
  rw [hn] at hl
  obtain ⟨q, hq⟩ : ∃ q, cutN (lessW x.ref) M = q := ⟨_, rfl⟩
  have HQ := Lib.hid hq
  have hqn : q ≤ n := by rw [← hq, ← hn]; exact cut_le
  obtain ⟨R, hR⟩ : ∃ R : Nat, (if thereW x.ref M = true then 8 else 0 : Nat) = R := ⟨_, rfl⟩
  obtain ⟨M', hM'⟩ : ∃ M', (if thereW x.ref M = true then M else M.take (cutN (lessW x.ref) M) ++ [x] ++ M.drop (cutN (lessW x.ref) M)) = M' := ⟨_, rfl⟩
  rw [hR, hM']
  have HRR := Lib.hid hR
  have HMM' := Lib.hid hM'
  obtain ⟨g0, hg0⟩ : ∃ g, W.heap.size = g := ⟨_, rfl⟩
  clear h hB hn hq hR hM'
  go_enter Try.func23, Try.ntmps23
  go_wp2
  go_loopw [5] (fun i wr => ∃ k : Nat, k ≤ q ∧ i = .int .i64 (k : Int) ∧ Below W.heap.size W wr ∧ Blk wr g0 33 #[.int .i64 x.ref, .int .i64 x.fr, .int .i64 x.to]) (fun i _ => q + 1 - (intOf i).toNat)
  case atStart => exact ⟨0, Nat.zero_le _, rfl, below_alloc _ _, Blk.newAt9 hg0⟩
  case round =>
    obtain ⟨k, hk, rfl, hb, hbk⟩ := hrel
    have HBW := Lib.hid hb
    have HBK := Lib.hid hbk
    have HR := Lib.hid (HH.out.keep hb)
    have m1 := HR.out.obj.cell 1
    rw [HN.out] at m1
    have b0 := hbk.cell 0
    clear hb hbk
    by_cases hlt : k < q
    · have hkq : k < cutN (lessW x.ref) M := by rw [HQ.out]; exact hlt
      obtain ⟨hkp, hle⟩ := cut_lt hkq
      have hkn : k < n := by rw [← HN.out]; exact hkp
      have hrow := HR.out.w
      rw [HN.out] at hrow
      obtain ⟨g, rfl, hc⟩ := own_at9 (g := 0) (c := cW) hrow (by omega)
      obtain ⟨z0, z1, z2⟩ := cellW hrow hkp HN.out
      generalize M[k] = y at z0 z1 z2 hle
      have hd : decide (k < n) = true := by simpa using hkn
      have q1 : (0 : Int) ≤ (k : Int) := by omega
      have q2 : (k : Int) < (n : Int) := by omega
      have d1 : decide (y.ref < x.ref) = true := hle
      clear hrow hkq hkp hle
      go_wp2
      go_quiet (fail)
      clear m1 b0 z0 z1 z2 d1
      go_wp2
      go_roundw
      case rel => exact ⟨k + 1, hlt, by go_num, below_drewN HBW.out _, HBK.out.keep (below_drewN (Below.refl _ _) _)⟩
      case measure => simp [intOf]; omega
    · obtain rfl : q = k := by omega
      have HT := Lib.hid (show thereW x.ref M = ((M[q]?).any fun y => y.ref == x.ref) by unfold thereW; rw [HQ.out])
      have q1 : (0 : Int) ≤ (q : Int) := by omega
      by_cases hqn2 : q < n
      · have hkp : q < M.length := by rw [HN.out]; exact hqn2
        have hle : decide (M[q].ref < x.ref) = false := by
          have h9 : cutN (lessW x.ref) M < M.length := by rw [HQ.out]; exact hkp
          have := cut_at h9
          simp only [HQ.out] at this
          exact this
        have HT2 := Lib.hid (show thereW x.ref M = (M[q].ref == x.ref) by rw [HT.out, List.getElem?_eq_getElem hkp]; rfl)
        have hrow := HR.out.w
        rw [HN.out] at hrow
        obtain ⟨g, rfl, hc⟩ := own_at9 (g := 0) (c := cW) hrow (by omega)
        obtain ⟨z0, z1, z2⟩ := cellW hrow hkp HN.out
        have HZV : Hid (∀ V, Below wr.heap.size wr V → V.cell? ⟨g, q * 3, none⟩ = some (.int .i64 M[q].ref)) := fun V hb => by
          have h9 := (HR.out.keep hb).w
          rw [HN.out] at h9
          exact (cellW h9 hkp HN.out).1
        generalize M[q] = y at z0 z1 z2 hle HT2 HZV
        have hd : decide (q < n) = true := by simpa using hqn2
        have q2 : (q : Int) < (n : Int) := by omega
        have hcm : cW ≤ 9223372036854775807 := by obtain ⟨_, _, _, _, h9⟩ := own_openK hrow; unfold maxLen at h9; omega
        clear hrow hkp
        go_wp2
        go_quiet (fail)
        clear m1 b0 z0 z1 z2 hle
        go_wp2
        refine wp_world (fun V => Below wr.heap.size wr V) (below_drewN (Below.refl _ _) _) ?_
        rintro V1 hbV
        have HV1 := Lib.hid hbV
        have m1 := (HR.out.keep hbV).obj.cell 1
        rw [HN.out] at m1
        have b0 := (HBK.out.keep hbV).cell 0
        have z0 := HZV.out V1 hbV
        clear hbV
        cases hyx : (y.ref == x.ref) with
        | true =>
          obtain rfl : 8 = R := by have h9 := HRR.out; rw [HT2.out, hyx] at h9; exact h9
          obtain rfl : M = M' := by have h9 := HMM'.out; rw [HT2.out, hyx] at h9; exact h9
          go_quiet (fail)
          clear m1 b0 z0 hyx
          go_wp2
          go_ret
          have HE9 := HBW.out.trans (HV1.out.mono HBW.out.size)
          exact ⟨rfl, _, _, _, _, HR.out.keep (below_drewN HV1.out _), Fr.of_below (below_drewN HE9 _) _⟩
        | false =>
          obtain rfl : 0 = R := by have h9 := HRR.out; rw [HT2.out, hyx] at h9; exact h9
          have HME := Lib.hid (show M.take q ++ [x] ++ M.drop q = M' by have h9 := HMM'.out; rw [HT2.out, hyx, HQ.out] at h9; exact h9)
          go_quiet (fail)
          clear m1 b0 z0 hyx
          go_upto_region 6 with (fail)
          refine wp_world (fun V => Below wr.heap.size wr V) (below_drewN HV1.out _) ?_
          clear HV1 HRR HMM' HT HT2 HZV
          rintro V0 hbV
          have HBV := Lib.hid (HBW.out.trans (hbV.mono HBW.out.size))
          have HRK := Lib.hid (HR.out.keep hbV)
          have HB0 := Lib.hid (show B ≤ V0.heap.size by have h1 := HB.out; have h2 := HBW.out.size; have h3 := hbV.size; omega)
          have HBX : Hid (∀ V, Below V0.heap.size V0 V → V.cell? ⟨g0, 0, none⟩ = some (.int .i64 x.ref) ∧ V.cell? ⟨g0, 1, none⟩ = some (.int .i64 x.fr) ∧ V.cell? ⟨g0, 2, none⟩ = some (.int .i64 x.to)) := fun V hb => by
            have h9 := (HBK.out.keep hbV).keep hb
            exact ⟨h9.cell 0, h9.cell 1, h9.cell 2⟩
          clear hbV
          have hrp := HRK.out.w
          rw [HN.out] at hrp
          have HC2 := Lib.hid (own_parts (z := 3) (fun _ => rfl) hrp HN.out q).1
          obtain ⟨A3, hA3, hc3⟩ := (own_parts (z := 3) (fun _ => rfl) hrp HN.out q).2
          have HC3 := Lib.hid hc3
          clear hrp hc3
          have HSC : Hid (∀ V, Below V0.heap.size V0 V → V.cell? ⟨pr, 1, none⟩ = some (.slice (some ⟨g, 0, none⟩) n cW)) := fun V hV => by rw [← HN.out]; exact (HRK.out.keep hV).obj.cell 1
          have HPF : Hid (∀ V, Below V0.heap.size V0 V → V.frozen? ⟨pr, 1, none⟩ = false) := fun V hV => (HRK.out.keep hV).obj.frozen 1
          have HL2 := Lib.hid (show (((M.take q).flatMap encW)).length = q * 3 by rw [flat_len (enc := encW) (k := 3) (fun _ => rfl), List.length_take, HN.out, Nat.min_eq_left (by omega)])
          have HL3 := Lib.hid (show (((M.drop q).flatMap encW)).length = (n - q) * 3 by rw [flat_len (enc := encW) (k := 3) (fun _ => rfl), List.length_drop, HN.out])
          have HMM := Lib.hid (show 0 + q + 1 + (n - q) = n + 1 by omega)
          have hplt := HRK.out.obj.lt
          have hic : q ≤ cW := by omega
          have y0 : (0 : Int) ≤ (q : Int) := by omega
          have y2 : (q : Int) ≤ (n : Int) := by omega
          have qi : (q : Int) ≤ (cW : Int) := by omega
          refine wp_region_W 21 (fun V => Below V0.heap.size V0 V) (by kernel_rfl) ?_ (fun hS0 => ?_)
          · exact (Below.refl _ _).drew
          (refine wpAnyW_take (i := 0) (v := ?_) rfl (by kernel_rfl) (by kernel_rfl) (by kernel_rfl) (by kernel_rfl) (fun _ _ _ h => h) (Or.inl ⟨by kernel_rfl, ?_⟩) (by assumption) ?_; rotate_left; focus (intro V9 hS9; go_simp; (try (with_reducible rfl)); done))
          try simp only [Act.put, List.getElem_toArray, List.getElem_cons_zero, List.setIfInBounds_toArray, List.set_cons_succ, List.set_cons_zero]
          (refine wpAnyW_take (i := 2) (v := ?_) rfl (by kernel_rfl) (by kernel_rfl) (by kernel_rfl) (by kernel_rfl) (fun _ _ _ h => h) (Or.inl ⟨by kernel_rfl, ?_⟩) (by assumption) ?_; rotate_left; focus (intro V9 hS9; go_simp; (try (with_reducible rfl)); done))
          try simp only [Act.put, List.getElem_toArray, List.getElem_cons_succ, List.getElem_cons_zero, List.setIfInBounds_toArray, List.set_cons_succ, List.set_cons_zero]
          (refine wpAnyW_take (i := 3) (v := ?_) rfl (by kernel_rfl) (by kernel_rfl) (by kernel_rfl) (by kernel_rfl) (fun _ _ _ h => h) (Or.inl ⟨by kernel_rfl, ?_⟩) (by assumption) ?_; rotate_left; focus (intro V9 hS9; go_simp; (try (with_reducible rfl)); done))
          try simp only [Act.put, List.getElem_toArray, List.getElem_cons_succ, List.getElem_cons_zero, List.setIfInBounds_toArray, List.set_cons_succ, List.set_cons_zero]
          (refine wpAnyW_take (i := 4) (v := ?_) rfl (by kernel_rfl) (by kernel_rfl) (by kernel_rfl) (by kernel_rfl) (fun _ _ _ h => h) (Or.inl ⟨by kernel_rfl, ?_⟩) (by assumption) ?_; rotate_left; focus (intro V9 hS9; go_simp; (try (with_reducible rfl)); done))
          try simp only [Act.put, List.getElem_toArray, List.getElem_cons_succ, List.getElem_cons_zero, List.setIfInBounds_toArray, List.set_cons_succ, List.set_cons_zero]
          (refine wpAnyW_take (i := 5) (v := ?_) rfl (by kernel_rfl) (by kernel_rfl) (by kernel_rfl) (by kernel_rfl) (fun _ _ _ h => h) (Or.inl ⟨by kernel_rfl, ?_⟩) (by assumption) ?_; rotate_left; focus (intro V9 hS9; have g0 := HSC.out V9 hS9; go_simp; (try (with_reducible rfl)); done))
          try simp only [Act.put, List.getElem_toArray, List.getElem_cons_succ, List.getElem_cons_zero, List.setIfInBounds_toArray, List.set_cons_succ, List.set_cons_zero]
          (refine wpAnyW_take (i := 6) (v := ?_) rfl (by kernel_rfl) (by kernel_rfl) (by kernel_rfl) (by kernel_rfl) (fun _ _ _ h => h) (Or.inl ⟨by kernel_rfl, ?_⟩) (by assumption) ?_; rotate_left; focus (intro V9 hS9; go_simp; (try (with_reducible rfl)); done))
          try simp only [Act.put, List.getElem_toArray, List.getElem_cons_succ, List.getElem_cons_zero, List.setIfInBounds_toArray, List.set_cons_succ, List.set_cons_zero]
          (refine wpAnyW_take (i := 7) (v := ?_) rfl (by kernel_rfl) (by kernel_rfl) (by kernel_rfl) (by kernel_rfl) (fun _ _ _ h => h) (Or.inl ⟨by kernel_rfl, ?_⟩) (by assumption) ?_; rotate_left; focus (intro V9 hS9; go_simp; (try (with_reducible rfl)); done))
          try simp only [Act.put, List.getElem_toArray, List.getElem_cons_succ, List.getElem_cons_zero, List.setIfInBounds_toArray, List.set_cons_succ, List.set_cons_zero]
          (refine wpAnyW_take (i := 9) (v := ?_) rfl (by kernel_rfl) (by kernel_rfl) (by kernel_rfl) (by kernel_rfl) (fun _ _ _ h => h) (Or.inl ⟨by kernel_rfl, ?_⟩) (by assumption) ?_; rotate_left; focus (intro V9 hS9; obtain ⟨k0, k1, k2⟩ := HBX.out V9 hS9; go_simp; (try (with_reducible rfl)); done))
          try simp only [Act.put, List.getElem_toArray, List.getElem_cons_succ, List.getElem_cons_zero, List.setIfInBounds_toArray, List.set_cons_succ, List.set_cons_zero]
          (refine wpAnyW_take (i := 12) (v := ?_) rfl (by kernel_rfl) (by kernel_rfl) (by kernel_rfl) (by kernel_rfl) (fun _ _ _ h => h) (Or.inl ⟨by kernel_rfl, ?_⟩) (by assumption) ?_; rotate_left; focus (intro V9 hS9; go_simp; (try (with_reducible rfl)); done))
          try simp only [Act.put, List.getElem_toArray, List.getElem_cons_succ, List.getElem_cons_zero, List.setIfInBounds_toArray, List.set_cons_succ, List.set_cons_zero]
          (refine wpAnyW_take (i := 13) (v := ?_) rfl (by kernel_rfl) (by kernel_rfl) (by kernel_rfl) (by kernel_rfl) (fun _ _ _ h => h) (Or.inl ⟨by kernel_rfl, ?_⟩) (by assumption) ?_; rotate_left; focus (intro V9 hS9; go_simp; (try (with_reducible rfl)); done))
          try simp only [Act.put, List.getElem_toArray, List.getElem_cons_succ, List.getElem_cons_zero, List.setIfInBounds_toArray, List.set_cons_succ, List.set_cons_zero]
          (refine wpAnyW_take (i := 14) (v := ?_) rfl (by kernel_rfl) (by kernel_rfl) (by kernel_rfl) (by kernel_rfl) (fun _ _ _ h => h) (Or.inl ⟨by kernel_rfl, ?_⟩) (by assumption) ?_; rotate_left; focus (intro V9 hS9; go_simp; (try (with_reducible rfl)); done))
          try simp only [Act.put, List.getElem_toArray, List.getElem_cons_succ, List.getElem_cons_zero, List.setIfInBounds_toArray, List.set_cons_succ, List.set_cons_zero]
          (refine wpAnyW_take (i := 15) (v := ?_) rfl (by kernel_rfl) (by kernel_rfl) (by kernel_rfl) (by kernel_rfl) (fun _ _ _ h => h) (Or.inl ⟨by kernel_rfl, ?_⟩) (by assumption) ?_; rotate_left; focus (intro V9 hS9; have g0 := HSC.out V9 hS9; go_simp; (try (with_reducible rfl)); done))
          try simp only [Act.put, List.getElem_toArray, List.getElem_cons_succ, List.getElem_cons_zero, List.setIfInBounds_toArray, List.set_cons_succ, List.set_cons_zero]
          (refine wpAnyW_take (i := 16) (v := ?_) rfl (by kernel_rfl) (by kernel_rfl) (by kernel_rfl) (by kernel_rfl) (fun _ _ _ h => h) (Or.inl ⟨by kernel_rfl, ?_⟩) (by assumption) ?_; rotate_left; focus (intro V9 hS9; go_simp; (try (with_reducible rfl)); done))
          try simp only [Act.put, List.getElem_toArray, List.getElem_cons_succ, List.getElem_cons_zero, List.setIfInBounds_toArray, List.set_cons_succ, List.set_cons_zero]
          (refine wpAnyW_take (i := 17) (v := ?_) rfl (by kernel_rfl) (by kernel_rfl) (by kernel_rfl) (by kernel_rfl) (fun _ _ _ h => h) (Or.inl ⟨by kernel_rfl, ?_⟩) (by assumption) ?_; rotate_left; focus (intro V9 hS9; go_simp; (try (with_reducible rfl)); done))
          try simp only [Act.put, List.getElem_toArray, List.getElem_cons_succ, List.getElem_cons_zero, List.setIfInBounds_toArray, List.set_cons_succ, List.set_cons_zero]
          refine wpAnyW_ready (rs := [1, 10]) (by kernel_rfl) (by simp) ?_
          refine AllReadyW.cons rfl (fun K hK => ?_) (AllReadyW.cons rfl (fun K hK => ?_) AllReadyW.nil)
          · skip
            go_simp
            refine hK.out _ _ (below_step hS0 (below_alloc _ _)) (fun _ => ?_)
            clear hK K
            try simp only [Act.put, List.getElem_toArray, List.getElem_cons_succ, List.getElem_cons_zero, List.setIfInBounds_toArray, List.set_cons_succ, List.set_cons_zero]
            refine wpAnyW_world (fun V => Below V0.heap.size V0 V ∧ V.ownsRow V0.heap.size 33 3 (.slice (some ⟨V0.drew.heap.size, 0, none⟩) 0 0) 0 []) ⟨below_step hS0 (below_alloc _ _), own_made (W := V0.drew) V0.heap.size 33 3 (Below.size hS0)⟩ ?_
            rintro W1 ⟨hb1, ho1⟩
            refine wpAnyW_ready (rs := [8, 10]) (by kernel_rfl) (by simp) ?_
            refine AllReadyW.cons rfl (fun K hK => ?_) (AllReadyW.cons rfl (fun K hK => ?_) AllReadyW.nil)
            · skip
              refine step_appO watchT (by kernel_rfl) (.tmp 49) (.tmp 55) rfl V0.heap.size 0 [] _ ho1 (some ⟨g, 0, none⟩) q cW ((M.take q).flatMap encW) (by rfl) (by rfl) HL2.out (HC2.out _ hb1) (encW_one _) (by unfold maxLen; omega) (by omega) (Below.size hb1) ?_
              intro v2 W2 ho2 hg2 hat2
              have hb2 : Below V0.heap.size V0 W2 := own_growL ho1 hb1 hg2 (Below.size hb1)
              refine hK.out _ _ hb2 (fun _ => ?_)
              clear hK K
              try simp only [Act.put, List.getElem_toArray, List.getElem_cons_succ, List.getElem_cons_zero, List.setIfInBounds_toArray, List.set_cons_succ, List.set_cons_zero]
              refine wpAnyW_ready (rs := [10]) (by kernel_rfl) (by simp) ?_
              refine AllReadyW.cons rfl (fun K hK => ?_) AllReadyW.nil
              go_simp
              refine hK.out _ _ (below_step hb2 (below_alloc _ _)) (fun _ => ?_)
              clear hK K
              try simp only [Act.put, List.getElem_toArray, List.getElem_cons_succ, List.getElem_cons_zero, List.setIfInBounds_toArray, List.set_cons_succ, List.set_cons_zero]
              refine wpAnyW_world (fun V => Below V0.heap.size V0 V ∧ Blk V W2.heap.size 33 #[.int .i64 x.ref, .int .i64 x.fr, .int .i64 x.to] ∧ V.ownsRow V0.heap.size 33 3 v2 (0 + q) ([] ++ ((M.take q).flatMap encW)) ∧ (v2).ownBlock ≠ some W2.heap.size) ⟨below_step hb2 (below_alloc _ _), Blk.new _ _ _, ho2.alloc _, fun e9 => Nat.lt_irrefl _ (World.ownsRow.lt ho2 _ e9).2⟩ ?_
              rintro W3 ⟨hb3, hk3, ho3, hne3⟩
              refine wpAnyW_ready (rs := [11]) (by kernel_rfl) (by simp) ?_
              refine AllReadyW.cons rfl (fun K hK => ?_) AllReadyW.nil
              refine step_appO watchT (by kernel_rfl) (.tmp 56) (.tmp 58) rfl V0.heap.size (0 + q) ([] ++ ((M.take q).flatMap encW)) _ ho3 _ 1 1 (encW x) (by rfl) (by rfl) rfl (cs_blk9 hk3) (by intro u hu; simp [encW] at hu; rcases hu with rfl | rfl | rfl <;> rfl) (by unfold maxLen; omega) (by omega) (Below.size hb3) ?_
              intro v9 Wx ho9 hg9 _
              have hb9 : Below V0.heap.size V0 Wx := own_growL ho3 hb3 hg9 (Below.size hb3)
              refine hK.out _ _ hb9 (fun _ => ?_)
              clear hK K
              try simp only [Act.put, List.getElem_toArray, List.getElem_cons_succ, List.getElem_cons_zero, List.setIfInBounds_toArray, List.set_cons_succ, List.set_cons_zero]
              refine wpAnyW_ready (rs := [18]) (by kernel_rfl) (by simp) ?_
              refine AllReadyW.cons rfl (fun K hK => ?_) AllReadyW.nil
              refine step_appO watchT (by kernel_rfl) (.tmp 59) (.tmp 65) rfl V0.heap.size (0 + q + 1) ([] ++ ((M.take q).flatMap encW) ++ encW x) v9 ho9 (some A3) (n - q) (cW - q) ((M.drop q).flatMap encW) (by rfl) (by rfl) HL3.out (HC3.out _ hb9) (encW_one _) (by unfold maxLen; omega) (by omega) (Below.size hb9) ?_
              intro v10 Wy ho10 hg10 _
              have hb10 : Below V0.heap.size V0 Wy := own_growL ho9 hb9 hg10 (Below.size hb9)
              refine hK.out _ _ hb10 (fun _ => ?_)
              clear hK K
              try simp only [Act.put, List.getElem_toArray, List.getElem_cons_succ, List.getElem_cons_zero, List.setIfInBounds_toArray, List.set_cons_succ, List.set_cons_zero]
              rw [HMM.out, List.nil_append] at ho10
              obtain ⟨A2, c2, rfl⟩ := own_slice9 ho10
              (refine wpAnyW_take (i := 19) (v := ?_) rfl (by kernel_rfl) (by kernel_rfl) (by kernel_rfl) (by kernel_rfl) (fun _ _ _ h => h) (Or.inl ⟨by kernel_rfl, ?_⟩) (by assumption) ?_; rotate_left; focus (intro V9 hS9; go_simp; (try (with_reducible rfl)); done))
              try simp only [Act.put, List.getElem_toArray, List.getElem_cons_succ, List.getElem_cons_zero, List.setIfInBounds_toArray, List.set_cons_succ, List.set_cons_zero]
              (refine wpAnyW_take (i := 20) (v := ?_) rfl (by kernel_rfl) (by kernel_rfl) (by kernel_rfl) (by kernel_rfl) (fun _ _ _ h => h) (Or.inl ⟨by kernel_rfl, ?_⟩) (by assumption) ?_; rotate_left; focus (intro V9 hS9; go_simp; (try (with_reducible rfl)); done))
              try simp only [Act.put, List.getElem_toArray, List.getElem_cons_succ, List.getElem_cons_zero, List.setIfInBounds_toArray, List.set_cons_succ, List.set_cons_zero]
              refine wpAnyW_ready (rs := [21]) (by kernel_rfl) (by simp) ?_
              refine AllReadyW.consE rfl (by kernel_rfl) (fun K hK => ?_) AllReadyW.nil
              have hfz := HPF.out Wy hb10
              have gc := HSC.out Wy hb10
              go_simp
              refine hK.out _ _ ?_
              clear hK K
              refine wpAnyW_done (by kernel_rfl) ?_ _
              have HF := Lib.hid (HRK.out.setW HB0.out hb10 (show Wy.ownsRow V0.heap.size 33 3 (.slice A2 (n + 1) c2) (n + 1) ((M.take q ++ [x] ++ M.drop q).flatMap encW) by rw [List.flatMap_append, List.flatMap_append]; simpa using ho10) (by rw [List.length_append, List.length_append, List.length_take, List.length_drop, HN.out]; simp; omega))
              clear ho10 hg10 ho9 hg9 hb9 hb10
              go_wp2
              go_ret
              rw [← HME.out]
              exact ⟨rfl, _, _, _, _, HF.out.1, (Fr.of_below HBV.out _).same HF.out.2⟩
            · skip
              go_simp
              refine hK.out _ _ (below_step hb1 (below_alloc _ _)) (fun _ => ?_)
              clear hK K
              try simp only [Act.put, List.getElem_toArray, List.getElem_cons_succ, List.getElem_cons_zero, List.setIfInBounds_toArray, List.set_cons_succ, List.set_cons_zero]
              refine wpAnyW_world (fun V => Below V0.heap.size V0 V ∧ Blk V W1.heap.size 33 #[.int .i64 x.ref, .int .i64 x.fr, .int .i64 x.to] ∧ V.ownsRow V0.heap.size 33 3 (Value.slice (some ⟨V0.drew.heap.size, 0, none⟩) 0 0) 0 [] ∧ ((Value.slice (some ⟨V0.drew.heap.size, 0, none⟩) 0 0)).ownBlock ≠ some W1.heap.size) ⟨below_step hb1 (below_alloc _ _), Blk.new _ _ _, ho1.alloc _, fun e9 => Nat.lt_irrefl _ (World.ownsRow.lt ho1 _ e9).2⟩ ?_
              rintro W4 ⟨hb4, hk4, ho4, hne4⟩
              refine wpAnyW_ready (rs := [8]) (by kernel_rfl) (by simp) ?_
              refine AllReadyW.cons rfl (fun K hK => ?_) AllReadyW.nil
              refine step_appO watchT (by kernel_rfl) (.tmp 49) (.tmp 55) rfl V0.heap.size 0 [] _ ho4 (some ⟨g, 0, none⟩) q cW ((M.take q).flatMap encW) (by rfl) (by rfl) HL2.out (HC2.out _ hb4) (encW_one _) (by unfold maxLen; omega) (by omega) (Below.size hb4) ?_
              intro v5 W5 ho5 hg5 hat5
              have hb5 : Below V0.heap.size V0 W5 := own_growL ho4 hb4 hg5 (Below.size hb4)
              have hk5 := hk4.grown hg5 (fun e9 => hne4 e9.symm)
              have hne5 : v5.ownBlock ≠ some W1.heap.size := fun e9 => by rcases hat5 with h9 | h9; exact hne4 (h9.symm.trans e9); (have h8 := hk4.lt; rw [h9] at e9; injection e9 with e9; omega)
              refine hK.out _ _ hb5 (fun _ => ?_)
              clear hK K
              try simp only [Act.put, List.getElem_toArray, List.getElem_cons_succ, List.getElem_cons_zero, List.setIfInBounds_toArray, List.set_cons_succ, List.set_cons_zero]
              refine wpAnyW_ready (rs := [11]) (by kernel_rfl) (by simp) ?_
              refine AllReadyW.cons rfl (fun K hK => ?_) AllReadyW.nil
              refine step_appO watchT (by kernel_rfl) (.tmp 56) (.tmp 58) rfl V0.heap.size (0 + q) ([] ++ ((M.take q).flatMap encW)) _ ho5 _ 1 1 (encW x) (by rfl) (by rfl) rfl (cs_blk9 hk5) (by intro u hu; simp [encW] at hu; rcases hu with rfl | rfl | rfl <;> rfl) (by unfold maxLen; omega) (by omega) (Below.size hb5) ?_
              intro v9 Wx ho9 hg9 _
              have hb9 : Below V0.heap.size V0 Wx := own_growL ho5 hb5 hg9 (Below.size hb5)
              refine hK.out _ _ hb9 (fun _ => ?_)
              clear hK K
              try simp only [Act.put, List.getElem_toArray, List.getElem_cons_succ, List.getElem_cons_zero, List.setIfInBounds_toArray, List.set_cons_succ, List.set_cons_zero]
              refine wpAnyW_ready (rs := [18]) (by kernel_rfl) (by simp) ?_
              refine AllReadyW.cons rfl (fun K hK => ?_) AllReadyW.nil
              refine step_appO watchT (by kernel_rfl) (.tmp 59) (.tmp 65) rfl V0.heap.size (0 + q + 1) ([] ++ ((M.take q).flatMap encW) ++ encW x) v9 ho9 (some A3) (n - q) (cW - q) ((M.drop q).flatMap encW) (by rfl) (by rfl) HL3.out (HC3.out _ hb9) (encW_one _) (by unfold maxLen; omega) (by omega) (Below.size hb9) ?_
              intro v10 Wy ho10 hg10 _
              have hb10 : Below V0.heap.size V0 Wy := own_growL ho9 hb9 hg10 (Below.size hb9)
              refine hK.out _ _ hb10 (fun _ => ?_)
              clear hK K
              try simp only [Act.put, List.getElem_toArray, List.getElem_cons_succ, List.getElem_cons_zero, List.setIfInBounds_toArray, List.set_cons_succ, List.set_cons_zero]
              rw [HMM.out, List.nil_append] at ho10
              obtain ⟨A2, c2, rfl⟩ := own_slice9 ho10
              (refine wpAnyW_take (i := 19) (v := ?_) rfl (by kernel_rfl) (by kernel_rfl) (by kernel_rfl) (by kernel_rfl) (fun _ _ _ h => h) (Or.inl ⟨by kernel_rfl, ?_⟩) (by assumption) ?_; rotate_left; focus (intro V9 hS9; go_simp; (try (with_reducible rfl)); done))
              try simp only [Act.put, List.getElem_toArray, List.getElem_cons_succ, List.getElem_cons_zero, List.setIfInBounds_toArray, List.set_cons_succ, List.set_cons_zero]
              (refine wpAnyW_take (i := 20) (v := ?_) rfl (by kernel_rfl) (by kernel_rfl) (by kernel_rfl) (by kernel_rfl) (fun _ _ _ h => h) (Or.inl ⟨by kernel_rfl, ?_⟩) (by assumption) ?_; rotate_left; focus (intro V9 hS9; go_simp; (try (with_reducible rfl)); done))
              try simp only [Act.put, List.getElem_toArray, List.getElem_cons_succ, List.getElem_cons_zero, List.setIfInBounds_toArray, List.set_cons_succ, List.set_cons_zero]
              refine wpAnyW_ready (rs := [21]) (by kernel_rfl) (by simp) ?_
              refine AllReadyW.consE rfl (by kernel_rfl) (fun K hK => ?_) AllReadyW.nil
              have hfz := HPF.out Wy hb10
              have gc := HSC.out Wy hb10
              go_simp
              refine hK.out _ _ ?_
              clear hK K
              refine wpAnyW_done (by kernel_rfl) ?_ _
              have HF := Lib.hid (HRK.out.setW HB0.out hb10 (show Wy.ownsRow V0.heap.size 33 3 (.slice A2 (n + 1) c2) (n + 1) ((M.take q ++ [x] ++ M.drop q).flatMap encW) by rw [List.flatMap_append, List.flatMap_append]; simpa using ho10) (by rw [List.length_append, List.length_append, List.length_take, List.length_drop, HN.out]; simp; omega))
              clear ho10 hg10 ho9 hg9 hb9 hb10
              go_wp2
              go_ret
              rw [← HME.out]
              exact ⟨rfl, _, _, _, _, HF.out.1, (Fr.of_below HBV.out _).same HF.out.2⟩
          · skip
            go_simp
            refine hK.out _ _ (below_step hS0 (below_alloc _ _)) (fun _ => ?_)
            clear hK K
            try simp only [Act.put, List.getElem_toArray, List.getElem_cons_succ, List.getElem_cons_zero, List.setIfInBounds_toArray, List.set_cons_succ, List.set_cons_zero]
            refine wpAnyW_world (fun V => Below V0.heap.size V0 V ∧ Blk V V0.drew.heap.size 33 #[.int .i64 x.ref, .int .i64 x.fr, .int .i64 x.to]) ⟨below_step hS0 (below_alloc _ _), Blk.new _ _ _⟩ ?_
            rintro W6 ⟨hb6, hk6⟩
            refine wpAnyW_ready (rs := [1]) (by kernel_rfl) (by simp) ?_
            refine AllReadyW.cons rfl (fun K hK => ?_) AllReadyW.nil
            go_simp
            refine hK.out _ _ (below_step hb6 (below_alloc _ _)) (fun _ => ?_)
            clear hK K
            try simp only [Act.put, List.getElem_toArray, List.getElem_cons_succ, List.getElem_cons_zero, List.setIfInBounds_toArray, List.set_cons_succ, List.set_cons_zero]
            refine wpAnyW_world (fun V => Below V0.heap.size V0 V ∧ V.ownsRow V0.heap.size 33 3 (.slice (some ⟨W6.heap.size, 0, none⟩) 0 0) 0 [] ∧ Blk V V0.drew.heap.size 33 #[.int .i64 x.ref, .int .i64 x.fr, .int .i64 x.to] ∧ (Value.slice (some ⟨W6.heap.size, 0, none⟩) 0 0).ownBlock ≠ some V0.drew.heap.size) ⟨below_step hb6 (below_alloc _ _), own_made (W := W6) V0.heap.size 33 3 (Below.size hb6), hk6.alloc _, fun e9 => by have h9 := hk6.lt; simp [Value.ownBlock] at e9 h9; omega⟩ ?_
            rintro W7 ⟨hb7, ho7, hk7, hne7⟩
            refine wpAnyW_ready (rs := [8]) (by kernel_rfl) (by simp) ?_
            refine AllReadyW.cons rfl (fun K hK => ?_) AllReadyW.nil
            refine step_appO watchT (by kernel_rfl) (.tmp 49) (.tmp 55) rfl V0.heap.size 0 [] _ ho7 (some ⟨g, 0, none⟩) q cW ((M.take q).flatMap encW) (by rfl) (by rfl) HL2.out (HC2.out _ hb7) (encW_one _) (by unfold maxLen; omega) (by omega) (Below.size hb7) ?_
            intro v8 W8 ho8 hg8 hat8
            have hb8 : Below V0.heap.size V0 W8 := own_growL ho7 hb7 hg8 (Below.size hb7)
            have hk8 := hk7.grown hg8 (fun e9 => hne7 e9.symm)
            have hne8 : v8.ownBlock ≠ some V0.drew.heap.size := fun e9 => by rcases hat8 with h9 | h9; exact hne7 (h9.symm.trans e9); (have h8 := hk7.lt; rw [h9] at e9; injection e9 with e9; omega)
            refine hK.out _ _ hb8 (fun _ => ?_)
            clear hK K
            try simp only [Act.put, List.getElem_toArray, List.getElem_cons_succ, List.getElem_cons_zero, List.setIfInBounds_toArray, List.set_cons_succ, List.set_cons_zero]
            refine wpAnyW_ready (rs := [11]) (by kernel_rfl) (by simp) ?_
            refine AllReadyW.cons rfl (fun K hK => ?_) AllReadyW.nil
            refine step_appO watchT (by kernel_rfl) (.tmp 56) (.tmp 58) rfl V0.heap.size (0 + q) ([] ++ ((M.take q).flatMap encW)) _ ho8 _ 1 1 (encW x) (by rfl) (by rfl) rfl (cs_blk9 hk8) (by intro u hu; simp [encW] at hu; rcases hu with rfl | rfl | rfl <;> rfl) (by unfold maxLen; omega) (by omega) (Below.size hb8) ?_
            intro v9 Wx ho9 hg9 _
            have hb9 : Below V0.heap.size V0 Wx := own_growL ho8 hb8 hg9 (Below.size hb8)
            refine hK.out _ _ hb9 (fun _ => ?_)
            clear hK K
            try simp only [Act.put, List.getElem_toArray, List.getElem_cons_succ, List.getElem_cons_zero, List.setIfInBounds_toArray, List.set_cons_succ, List.set_cons_zero]
            refine wpAnyW_ready (rs := [18]) (by kernel_rfl) (by simp) ?_
            refine AllReadyW.cons rfl (fun K hK => ?_) AllReadyW.nil
            refine step_appO watchT (by kernel_rfl) (.tmp 59) (.tmp 65) rfl V0.heap.size (0 + q + 1) ([] ++ ((M.take q).flatMap encW) ++ encW x) v9 ho9 (some A3) (n - q) (cW - q) ((M.drop q).flatMap encW) (by rfl) (by rfl) HL3.out (HC3.out _ hb9) (encW_one _) (by unfold maxLen; omega) (by omega) (Below.size hb9) ?_
            intro v10 Wy ho10 hg10 _
            have hb10 : Below V0.heap.size V0 Wy := own_growL ho9 hb9 hg10 (Below.size hb9)
            refine hK.out _ _ hb10 (fun _ => ?_)
            clear hK K
            try simp only [Act.put, List.getElem_toArray, List.getElem_cons_succ, List.getElem_cons_zero, List.setIfInBounds_toArray, List.set_cons_succ, List.set_cons_zero]
            rw [HMM.out, List.nil_append] at ho10
            obtain ⟨A2, c2, rfl⟩ := own_slice9 ho10
            (refine wpAnyW_take (i := 19) (v := ?_) rfl (by kernel_rfl) (by kernel_rfl) (by kernel_rfl) (by kernel_rfl) (fun _ _ _ h => h) (Or.inl ⟨by kernel_rfl, ?_⟩) (by assumption) ?_; rotate_left; focus (intro V9 hS9; go_simp; (try (with_reducible rfl)); done))
            try simp only [Act.put, List.getElem_toArray, List.getElem_cons_succ, List.getElem_cons_zero, List.setIfInBounds_toArray, List.set_cons_succ, List.set_cons_zero]
            (refine wpAnyW_take (i := 20) (v := ?_) rfl (by kernel_rfl) (by kernel_rfl) (by kernel_rfl) (by kernel_rfl) (fun _ _ _ h => h) (Or.inl ⟨by kernel_rfl, ?_⟩) (by assumption) ?_; rotate_left; focus (intro V9 hS9; go_simp; (try (with_reducible rfl)); done))
            try simp only [Act.put, List.getElem_toArray, List.getElem_cons_succ, List.getElem_cons_zero, List.setIfInBounds_toArray, List.set_cons_succ, List.set_cons_zero]
            refine wpAnyW_ready (rs := [21]) (by kernel_rfl) (by simp) ?_
            refine AllReadyW.consE rfl (by kernel_rfl) (fun K hK => ?_) AllReadyW.nil
            have hfz := HPF.out Wy hb10
            have gc := HSC.out Wy hb10
            go_simp
            refine hK.out _ _ ?_
            clear hK K
            refine wpAnyW_done (by kernel_rfl) ?_ _
            have HF := Lib.hid (HRK.out.setW HB0.out hb10 (show Wy.ownsRow V0.heap.size 33 3 (.slice A2 (n + 1) c2) (n + 1) ((M.take q ++ [x] ++ M.drop q).flatMap encW) by rw [List.flatMap_append, List.flatMap_append]; simpa using ho10) (by rw [List.length_append, List.length_append, List.length_take, List.length_drop, HN.out]; simp; omega))
            clear ho10 hg10 ho9 hg9 hb9 hb10
            go_wp2
            go_ret
            rw [← HME.out]
            exact ⟨rfl, _, _, _, _, HF.out.1, (Fr.of_below HBV.out _).same HF.out.2⟩
      · have hqe : n ≤ q := by omega
        have hd : decide (q < n) = false := by simp; omega
        have hT : thereW x.ref M = false := by rw [HT.out, List.getElem?_eq_none (by rw [HN.out]; omega)]; rfl
        obtain rfl : 0 = R := by have h9 := HRR.out; rw [hT] at h9; exact h9
        have HME := Lib.hid (show M.take q ++ [x] ++ M.drop q = M' by have h9 := HMM'.out; rw [hT, HQ.out] at h9; exact h9)
        clear hT HRR HMM' HT hqe
        go_wp2
        go_quiet (fail)
        clear m1 b0
        go_wp2
        refine wp_world (fun V => Below wr.heap.size wr V) (below_drewN (Below.refl _ _) _) ?_
        rintro V1 hbV
        have HV1 := Lib.hid hbV
        have m1 := (HR.out.keep hbV).obj.cell 1
        rw [HN.out] at m1
        have b0 := (HBK.out.keep hbV).cell 0
        clear hbV
        go_quiet (fail)
        clear m1 b0
        go_upto_region 6 with (fail)
        refine wp_world (fun V => Below wr.heap.size wr V) (below_drewN HV1.out _) ?_
        clear HV1
        cases AW with
        | none =>
          have hz : n = 0 ∧ cW = 0 := by
            have h9 := HR.out.w
            rw [HN.out] at h9
            rcases h9.2 with ⟨hv, hz⟩ | ⟨g, cap', cur, hv, _⟩
            · exact ⟨(Value.slice.inj hv).2.1, (Value.slice.inj hv).2.2⟩
            · have := (Value.slice.inj hv).1
              cases this
          have hnc : n ≤ cW := by omega
          have hcm : cW ≤ 9223372036854775807 := by omega
          have HP0 := Lib.hid (show M = [] from List.eq_nil_of_length_eq_zero (by rw [HN.out]; exact hz.1))
          clear hz
          rintro V0 hbV
          have HBV := Lib.hid (HBW.out.trans (hbV.mono HBW.out.size))
          have HRK := Lib.hid (HR.out.keep hbV)
          have HB0 := Lib.hid (show B ≤ V0.heap.size by have h1 := HB.out; have h2 := HBW.out.size; have h3 := hbV.size; omega)
          have HBX : Hid (∀ V, Below V0.heap.size V0 V → V.cell? ⟨g0, 0, none⟩ = some (.int .i64 x.ref) ∧ V.cell? ⟨g0, 1, none⟩ = some (.int .i64 x.fr) ∧ V.cell? ⟨g0, 2, none⟩ = some (.int .i64 x.to)) := fun V hb => by
            have h9 := (HBK.out.keep hbV).keep hb
            exact ⟨h9.cell 0, h9.cell 1, h9.cell 2⟩
          clear hbV
          have HC2 : Hid (∀ V, Below V0.heap.size V0 V → Cs V none ((M.take q).flatMap encW)) := fun V _ => .inl (by rw [HP0.out]; simp)
          have HC3 : Hid (∀ V, Below V0.heap.size V0 V → Cs V none ((M.drop q).flatMap encW)) := fun V _ => .inl (by rw [HP0.out]; simp)
          have HSC : Hid (∀ V, Below V0.heap.size V0 V → V.cell? ⟨pr, 1, none⟩ = some (.slice none n cW)) := fun V hV => by rw [← HN.out]; exact (HRK.out.keep hV).obj.cell 1
          have HPF : Hid (∀ V, Below V0.heap.size V0 V → V.frozen? ⟨pr, 1, none⟩ = false) := fun V hV => (HRK.out.keep hV).obj.frozen 1
          have HL2 := Lib.hid (show (((M.take q).flatMap encW)).length = q * 3 by rw [flat_len (enc := encW) (k := 3) (fun _ => rfl), List.length_take, HN.out, Nat.min_eq_left (by omega)])
          have HL3 := Lib.hid (show (((M.drop q).flatMap encW)).length = (n - q) * 3 by rw [flat_len (enc := encW) (k := 3) (fun _ => rfl), List.length_drop, HN.out])
          have HMM := Lib.hid (show 0 + q + 1 + (n - q) = n + 1 by omega)
          have hplt := HRK.out.obj.lt
          have hic : q ≤ cW := by omega
          have y0 : (0 : Int) ≤ (q : Int) := by omega
          have y2 : (q : Int) ≤ (n : Int) := by omega
          have qi : (q : Int) ≤ (cW : Int) := by omega
          refine wp_region_W 21 (fun V => Below V0.heap.size V0 V) (by kernel_rfl) ?_ (fun hS0 => ?_)
          · exact (Below.refl _ _).drew
          (refine wpAnyW_take (i := 0) (v := ?_) rfl (by kernel_rfl) (by kernel_rfl) (by kernel_rfl) (by kernel_rfl) (fun _ _ _ h => h) (Or.inl ⟨by kernel_rfl, ?_⟩) (by assumption) ?_; rotate_left; focus (intro V9 hS9; go_simp; (try (with_reducible rfl)); done))
          try simp only [Act.put, List.getElem_toArray, List.getElem_cons_zero, List.setIfInBounds_toArray, List.set_cons_succ, List.set_cons_zero]
          (refine wpAnyW_take (i := 2) (v := ?_) rfl (by kernel_rfl) (by kernel_rfl) (by kernel_rfl) (by kernel_rfl) (fun _ _ _ h => h) (Or.inl ⟨by kernel_rfl, ?_⟩) (by assumption) ?_; rotate_left; focus (intro V9 hS9; go_simp; (try (with_reducible rfl)); done))
          try simp only [Act.put, List.getElem_toArray, List.getElem_cons_succ, List.getElem_cons_zero, List.setIfInBounds_toArray, List.set_cons_succ, List.set_cons_zero]
          (refine wpAnyW_take (i := 3) (v := ?_) rfl (by kernel_rfl) (by kernel_rfl) (by kernel_rfl) (by kernel_rfl) (fun _ _ _ h => h) (Or.inl ⟨by kernel_rfl, ?_⟩) (by assumption) ?_; rotate_left; focus (intro V9 hS9; go_simp; (try (with_reducible rfl)); done))
          try simp only [Act.put, List.getElem_toArray, List.getElem_cons_succ, List.getElem_cons_zero, List.setIfInBounds_toArray, List.set_cons_succ, List.set_cons_zero]
          (refine wpAnyW_take (i := 4) (v := ?_) rfl (by kernel_rfl) (by kernel_rfl) (by kernel_rfl) (by kernel_rfl) (fun _ _ _ h => h) (Or.inl ⟨by kernel_rfl, ?_⟩) (by assumption) ?_; rotate_left; focus (intro V9 hS9; go_simp; (try (with_reducible rfl)); done))
          try simp only [Act.put, List.getElem_toArray, List.getElem_cons_succ, List.getElem_cons_zero, List.setIfInBounds_toArray, List.set_cons_succ, List.set_cons_zero]
          (refine wpAnyW_take (i := 5) (v := ?_) rfl (by kernel_rfl) (by kernel_rfl) (by kernel_rfl) (by kernel_rfl) (fun _ _ _ h => h) (Or.inl ⟨by kernel_rfl, ?_⟩) (by assumption) ?_; rotate_left; focus (intro V9 hS9; have g0 := HSC.out V9 hS9; go_simp; (try (with_reducible rfl)); done))
          try simp only [Act.put, List.getElem_toArray, List.getElem_cons_succ, List.getElem_cons_zero, List.setIfInBounds_toArray, List.set_cons_succ, List.set_cons_zero]
          (refine wpAnyW_take (i := 6) (v := ?_) rfl (by kernel_rfl) (by kernel_rfl) (by kernel_rfl) (by kernel_rfl) (fun _ _ _ h => h) (Or.inl ⟨by kernel_rfl, ?_⟩) (by assumption) ?_; rotate_left; focus (intro V9 hS9; go_simp; (try (with_reducible rfl)); done))
          try simp only [Act.put, List.getElem_toArray, List.getElem_cons_succ, List.getElem_cons_zero, List.setIfInBounds_toArray, List.set_cons_succ, List.set_cons_zero]
          (refine wpAnyW_take (i := 7) (v := ?_) rfl (by kernel_rfl) (by kernel_rfl) (by kernel_rfl) (by kernel_rfl) (fun _ _ _ h => h) (Or.inl ⟨by kernel_rfl, ?_⟩) (by assumption) ?_; rotate_left; focus (intro V9 hS9; go_simp; (try (with_reducible rfl)); done))
          try simp only [Act.put, List.getElem_toArray, List.getElem_cons_succ, List.getElem_cons_zero, List.setIfInBounds_toArray, List.set_cons_succ, List.set_cons_zero]
          (refine wpAnyW_take (i := 9) (v := ?_) rfl (by kernel_rfl) (by kernel_rfl) (by kernel_rfl) (by kernel_rfl) (fun _ _ _ h => h) (Or.inl ⟨by kernel_rfl, ?_⟩) (by assumption) ?_; rotate_left; focus (intro V9 hS9; obtain ⟨k0, k1, k2⟩ := HBX.out V9 hS9; go_simp; (try (with_reducible rfl)); done))
          try simp only [Act.put, List.getElem_toArray, List.getElem_cons_succ, List.getElem_cons_zero, List.setIfInBounds_toArray, List.set_cons_succ, List.set_cons_zero]
          (refine wpAnyW_take (i := 12) (v := ?_) rfl (by kernel_rfl) (by kernel_rfl) (by kernel_rfl) (by kernel_rfl) (fun _ _ _ h => h) (Or.inl ⟨by kernel_rfl, ?_⟩) (by assumption) ?_; rotate_left; focus (intro V9 hS9; go_simp; (try (with_reducible rfl)); done))
          try simp only [Act.put, List.getElem_toArray, List.getElem_cons_succ, List.getElem_cons_zero, List.setIfInBounds_toArray, List.set_cons_succ, List.set_cons_zero]
          (refine wpAnyW_take (i := 13) (v := ?_) rfl (by kernel_rfl) (by kernel_rfl) (by kernel_rfl) (by kernel_rfl) (fun _ _ _ h => h) (Or.inl ⟨by kernel_rfl, ?_⟩) (by assumption) ?_; rotate_left; focus (intro V9 hS9; go_simp; (try (with_reducible rfl)); done))
          try simp only [Act.put, List.getElem_toArray, List.getElem_cons_succ, List.getElem_cons_zero, List.setIfInBounds_toArray, List.set_cons_succ, List.set_cons_zero]
          (refine wpAnyW_take (i := 14) (v := ?_) rfl (by kernel_rfl) (by kernel_rfl) (by kernel_rfl) (by kernel_rfl) (fun _ _ _ h => h) (Or.inl ⟨by kernel_rfl, ?_⟩) (by assumption) ?_; rotate_left; focus (intro V9 hS9; go_simp; (try (with_reducible rfl)); done))
          try simp only [Act.put, List.getElem_toArray, List.getElem_cons_succ, List.getElem_cons_zero, List.setIfInBounds_toArray, List.set_cons_succ, List.set_cons_zero]
          (refine wpAnyW_take (i := 15) (v := ?_) rfl (by kernel_rfl) (by kernel_rfl) (by kernel_rfl) (by kernel_rfl) (fun _ _ _ h => h) (Or.inl ⟨by kernel_rfl, ?_⟩) (by assumption) ?_; rotate_left; focus (intro V9 hS9; have g0 := HSC.out V9 hS9; go_simp; (try (with_reducible rfl)); done))
          try simp only [Act.put, List.getElem_toArray, List.getElem_cons_succ, List.getElem_cons_zero, List.setIfInBounds_toArray, List.set_cons_succ, List.set_cons_zero]
          (refine wpAnyW_take (i := 16) (v := ?_) rfl (by kernel_rfl) (by kernel_rfl) (by kernel_rfl) (by kernel_rfl) (fun _ _ _ h => h) (Or.inl ⟨by kernel_rfl, ?_⟩) (by assumption) ?_; rotate_left; focus (intro V9 hS9; go_simp; (try (with_reducible rfl)); done))
          try simp only [Act.put, List.getElem_toArray, List.getElem_cons_succ, List.getElem_cons_zero, List.setIfInBounds_toArray, List.set_cons_succ, List.set_cons_zero]
          (refine wpAnyW_take (i := 17) (v := ?_) rfl (by kernel_rfl) (by kernel_rfl) (by kernel_rfl) (by kernel_rfl) (fun _ _ _ h => h) (Or.inl ⟨by kernel_rfl, ?_⟩) (by assumption) ?_; rotate_left; focus (intro V9 hS9; go_simp; (try (with_reducible rfl)); done))
          try simp only [Act.put, List.getElem_toArray, List.getElem_cons_succ, List.getElem_cons_zero, List.setIfInBounds_toArray, List.set_cons_succ, List.set_cons_zero]
          refine wpAnyW_ready (rs := [1, 10]) (by kernel_rfl) (by simp) ?_
          refine AllReadyW.cons rfl (fun K hK => ?_) (AllReadyW.cons rfl (fun K hK => ?_) AllReadyW.nil)
          · skip
            go_simp
            refine hK.out _ _ (below_step hS0 (below_alloc _ _)) (fun _ => ?_)
            clear hK K
            try simp only [Act.put, List.getElem_toArray, List.getElem_cons_succ, List.getElem_cons_zero, List.setIfInBounds_toArray, List.set_cons_succ, List.set_cons_zero]
            refine wpAnyW_world (fun V => Below V0.heap.size V0 V ∧ V.ownsRow V0.heap.size 33 3 (.slice (some ⟨V0.drew.heap.size, 0, none⟩) 0 0) 0 []) ⟨below_step hS0 (below_alloc _ _), own_made (W := V0.drew) V0.heap.size 33 3 (Below.size hS0)⟩ ?_
            rintro W1 ⟨hb1, ho1⟩
            refine wpAnyW_ready (rs := [8, 10]) (by kernel_rfl) (by simp) ?_
            refine AllReadyW.cons rfl (fun K hK => ?_) (AllReadyW.cons rfl (fun K hK => ?_) AllReadyW.nil)
            · skip
              refine step_appO watchT (by kernel_rfl) (.tmp 49) (.tmp 55) rfl V0.heap.size 0 [] _ ho1 none q cW ((M.take q).flatMap encW) (by rfl) (by rfl) HL2.out (HC2.out _ hb1) (encW_one _) (by unfold maxLen; omega) (by omega) (Below.size hb1) ?_
              intro v2 W2 ho2 hg2 hat2
              have hb2 : Below V0.heap.size V0 W2 := own_growL ho1 hb1 hg2 (Below.size hb1)
              refine hK.out _ _ hb2 (fun _ => ?_)
              clear hK K
              try simp only [Act.put, List.getElem_toArray, List.getElem_cons_succ, List.getElem_cons_zero, List.setIfInBounds_toArray, List.set_cons_succ, List.set_cons_zero]
              refine wpAnyW_ready (rs := [10]) (by kernel_rfl) (by simp) ?_
              refine AllReadyW.cons rfl (fun K hK => ?_) AllReadyW.nil
              go_simp
              refine hK.out _ _ (below_step hb2 (below_alloc _ _)) (fun _ => ?_)
              clear hK K
              try simp only [Act.put, List.getElem_toArray, List.getElem_cons_succ, List.getElem_cons_zero, List.setIfInBounds_toArray, List.set_cons_succ, List.set_cons_zero]
              refine wpAnyW_world (fun V => Below V0.heap.size V0 V ∧ Blk V W2.heap.size 33 #[.int .i64 x.ref, .int .i64 x.fr, .int .i64 x.to] ∧ V.ownsRow V0.heap.size 33 3 v2 (0 + q) ([] ++ ((M.take q).flatMap encW)) ∧ (v2).ownBlock ≠ some W2.heap.size) ⟨below_step hb2 (below_alloc _ _), Blk.new _ _ _, ho2.alloc _, fun e9 => Nat.lt_irrefl _ (World.ownsRow.lt ho2 _ e9).2⟩ ?_
              rintro W3 ⟨hb3, hk3, ho3, hne3⟩
              refine wpAnyW_ready (rs := [11]) (by kernel_rfl) (by simp) ?_
              refine AllReadyW.cons rfl (fun K hK => ?_) AllReadyW.nil
              refine step_appO watchT (by kernel_rfl) (.tmp 56) (.tmp 58) rfl V0.heap.size (0 + q) ([] ++ ((M.take q).flatMap encW)) _ ho3 _ 1 1 (encW x) (by rfl) (by rfl) rfl (cs_blk9 hk3) (by intro u hu; simp [encW] at hu; rcases hu with rfl | rfl | rfl <;> rfl) (by unfold maxLen; omega) (by omega) (Below.size hb3) ?_
              intro v9 Wx ho9 hg9 _
              have hb9 : Below V0.heap.size V0 Wx := own_growL ho3 hb3 hg9 (Below.size hb3)
              refine hK.out _ _ hb9 (fun _ => ?_)
              clear hK K
              try simp only [Act.put, List.getElem_toArray, List.getElem_cons_succ, List.getElem_cons_zero, List.setIfInBounds_toArray, List.set_cons_succ, List.set_cons_zero]
              refine wpAnyW_ready (rs := [18]) (by kernel_rfl) (by simp) ?_
              refine AllReadyW.cons rfl (fun K hK => ?_) AllReadyW.nil
              refine step_appO watchT (by kernel_rfl) (.tmp 59) (.tmp 65) rfl V0.heap.size (0 + q + 1) ([] ++ ((M.take q).flatMap encW) ++ encW x) v9 ho9 none (n - q) (cW - q) ((M.drop q).flatMap encW) (by rfl) (by rfl) HL3.out (HC3.out _ hb9) (encW_one _) (by unfold maxLen; omega) (by omega) (Below.size hb9) ?_
              intro v10 Wy ho10 hg10 _
              have hb10 : Below V0.heap.size V0 Wy := own_growL ho9 hb9 hg10 (Below.size hb9)
              refine hK.out _ _ hb10 (fun _ => ?_)
              clear hK K
              try simp only [Act.put, List.getElem_toArray, List.getElem_cons_succ, List.getElem_cons_zero, List.setIfInBounds_toArray, List.set_cons_succ, List.set_cons_zero]
              rw [HMM.out, List.nil_append] at ho10
              obtain ⟨A2, c2, rfl⟩ := own_slice9 ho10
              (refine wpAnyW_take (i := 19) (v := ?_) rfl (by kernel_rfl) (by kernel_rfl) (by kernel_rfl) (by kernel_rfl) (fun _ _ _ h => h) (Or.inl ⟨by kernel_rfl, ?_⟩) (by assumption) ?_; rotate_left; focus (intro V9 hS9; go_simp; (try (with_reducible rfl)); done))
              try simp only [Act.put, List.getElem_toArray, List.getElem_cons_succ, List.getElem_cons_zero, List.setIfInBounds_toArray, List.set_cons_succ, List.set_cons_zero]
              (refine wpAnyW_take (i := 20) (v := ?_) rfl (by kernel_rfl) (by kernel_rfl) (by kernel_rfl) (by kernel_rfl) (fun _ _ _ h => h) (Or.inl ⟨by kernel_rfl, ?_⟩) (by assumption) ?_; rotate_left; focus (intro V9 hS9; go_simp; (try (with_reducible rfl)); done))
              try simp only [Act.put, List.getElem_toArray, List.getElem_cons_succ, List.getElem_cons_zero, List.setIfInBounds_toArray, List.set_cons_succ, List.set_cons_zero]
              refine wpAnyW_ready (rs := [21]) (by kernel_rfl) (by simp) ?_
              refine AllReadyW.consE rfl (by kernel_rfl) (fun K hK => ?_) AllReadyW.nil
              have hfz := HPF.out Wy hb10
              have gc := HSC.out Wy hb10
              go_simp
              refine hK.out _ _ ?_
              clear hK K
              refine wpAnyW_done (by kernel_rfl) ?_ _
              have HF := Lib.hid (HRK.out.setW HB0.out hb10 (show Wy.ownsRow V0.heap.size 33 3 (.slice A2 (n + 1) c2) (n + 1) ((M.take q ++ [x] ++ M.drop q).flatMap encW) by rw [List.flatMap_append, List.flatMap_append]; simpa using ho10) (by rw [List.length_append, List.length_append, List.length_take, List.length_drop, HN.out]; simp; omega))
              clear ho10 hg10 ho9 hg9 hb9 hb10
              go_wp2
              go_ret
              rw [← HME.out]
              exact ⟨rfl, _, _, _, _, HF.out.1, (Fr.of_below HBV.out _).same HF.out.2⟩
            · skip
              go_simp
              refine hK.out _ _ (below_step hb1 (below_alloc _ _)) (fun _ => ?_)
              clear hK K
              try simp only [Act.put, List.getElem_toArray, List.getElem_cons_succ, List.getElem_cons_zero, List.setIfInBounds_toArray, List.set_cons_succ, List.set_cons_zero]
              refine wpAnyW_world (fun V => Below V0.heap.size V0 V ∧ Blk V W1.heap.size 33 #[.int .i64 x.ref, .int .i64 x.fr, .int .i64 x.to] ∧ V.ownsRow V0.heap.size 33 3 (Value.slice (some ⟨V0.drew.heap.size, 0, none⟩) 0 0) 0 [] ∧ ((Value.slice (some ⟨V0.drew.heap.size, 0, none⟩) 0 0)).ownBlock ≠ some W1.heap.size) ⟨below_step hb1 (below_alloc _ _), Blk.new _ _ _, ho1.alloc _, fun e9 => Nat.lt_irrefl _ (World.ownsRow.lt ho1 _ e9).2⟩ ?_
              rintro W4 ⟨hb4, hk4, ho4, hne4⟩
              refine wpAnyW_ready (rs := [8]) (by kernel_rfl) (by simp) ?_
              refine AllReadyW.cons rfl (fun K hK => ?_) AllReadyW.nil
              refine step_appO watchT (by kernel_rfl) (.tmp 49) (.tmp 55) rfl V0.heap.size 0 [] _ ho4 none q cW ((M.take q).flatMap encW) (by rfl) (by rfl) HL2.out (HC2.out _ hb4) (encW_one _) (by unfold maxLen; omega) (by omega) (Below.size hb4) ?_
              intro v5 W5 ho5 hg5 hat5
              have hb5 : Below V0.heap.size V0 W5 := own_growL ho4 hb4 hg5 (Below.size hb4)
              have hk5 := hk4.grown hg5 (fun e9 => hne4 e9.symm)
              have hne5 : v5.ownBlock ≠ some W1.heap.size := fun e9 => by rcases hat5 with h9 | h9; exact hne4 (h9.symm.trans e9); (have h8 := hk4.lt; rw [h9] at e9; injection e9 with e9; omega)
              refine hK.out _ _ hb5 (fun _ => ?_)
              clear hK K
              try simp only [Act.put, List.getElem_toArray, List.getElem_cons_succ, List.getElem_cons_zero, List.setIfInBounds_toArray, List.set_cons_succ, List.set_cons_zero]
              refine wpAnyW_ready (rs := [11]) (by kernel_rfl) (by simp) ?_
              refine AllReadyW.cons rfl (fun K hK => ?_) AllReadyW.nil
              refine step_appO watchT (by kernel_rfl) (.tmp 56) (.tmp 58) rfl V0.heap.size (0 + q) ([] ++ ((M.take q).flatMap encW)) _ ho5 _ 1 1 (encW x) (by rfl) (by rfl) rfl (cs_blk9 hk5) (by intro u hu; simp [encW] at hu; rcases hu with rfl | rfl | rfl <;> rfl) (by unfold maxLen; omega) (by omega) (Below.size hb5) ?_
              intro v9 Wx ho9 hg9 _
              have hb9 : Below V0.heap.size V0 Wx := own_growL ho5 hb5 hg9 (Below.size hb5)
              refine hK.out _ _ hb9 (fun _ => ?_)
              clear hK K
              try simp only [Act.put, List.getElem_toArray, List.getElem_cons_succ, List.getElem_cons_zero, List.setIfInBounds_toArray, List.set_cons_succ, List.set_cons_zero]
              refine wpAnyW_ready (rs := [18]) (by kernel_rfl) (by simp) ?_
              refine AllReadyW.cons rfl (fun K hK => ?_) AllReadyW.nil
              refine step_appO watchT (by kernel_rfl) (.tmp 59) (.tmp 65) rfl V0.heap.size (0 + q + 1) ([] ++ ((M.take q).flatMap encW) ++ encW x) v9 ho9 none (n - q) (cW - q) ((M.drop q).flatMap encW) (by rfl) (by rfl) HL3.out (HC3.out _ hb9) (encW_one _) (by unfold maxLen; omega) (by omega) (Below.size hb9) ?_
              intro v10 Wy ho10 hg10 _
              have hb10 : Below V0.heap.size V0 Wy := own_growL ho9 hb9 hg10 (Below.size hb9)
              refine hK.out _ _ hb10 (fun _ => ?_)
              clear hK K
              try simp only [Act.put, List.getElem_toArray, List.getElem_cons_succ, List.getElem_cons_zero, List.setIfInBounds_toArray, List.set_cons_succ, List.set_cons_zero]
              rw [HMM.out, List.nil_append] at ho10
              obtain ⟨A2, c2, rfl⟩ := own_slice9 ho10
              (refine wpAnyW_take (i := 19) (v := ?_) rfl (by kernel_rfl) (by kernel_rfl) (by kernel_rfl) (by kernel_rfl) (fun _ _ _ h => h) (Or.inl ⟨by kernel_rfl, ?_⟩) (by assumption) ?_; rotate_left; focus (intro V9 hS9; go_simp; (try (with_reducible rfl)); done))
              try simp only [Act.put, List.getElem_toArray, List.getElem_cons_succ, List.getElem_cons_zero, List.setIfInBounds_toArray, List.set_cons_succ, List.set_cons_zero]
              (refine wpAnyW_take (i := 20) (v := ?_) rfl (by kernel_rfl) (by kernel_rfl) (by kernel_rfl) (by kernel_rfl) (fun _ _ _ h => h) (Or.inl ⟨by kernel_rfl, ?_⟩) (by assumption) ?_; rotate_left; focus (intro V9 hS9; go_simp; (try (with_reducible rfl)); done))
              try simp only [Act.put, List.getElem_toArray, List.getElem_cons_succ, List.getElem_cons_zero, List.setIfInBounds_toArray, List.set_cons_succ, List.set_cons_zero]
              refine wpAnyW_ready (rs := [21]) (by kernel_rfl) (by simp) ?_
              refine AllReadyW.consE rfl (by kernel_rfl) (fun K hK => ?_) AllReadyW.nil
              have hfz := HPF.out Wy hb10
              have gc := HSC.out Wy hb10
              go_simp
              refine hK.out _ _ ?_
              clear hK K
              refine wpAnyW_done (by kernel_rfl) ?_ _
              have HF := Lib.hid (HRK.out.setW HB0.out hb10 (show Wy.ownsRow V0.heap.size 33 3 (.slice A2 (n + 1) c2) (n + 1) ((M.take q ++ [x] ++ M.drop q).flatMap encW) by rw [List.flatMap_append, List.flatMap_append]; simpa using ho10) (by rw [List.length_append, List.length_append, List.length_take, List.length_drop, HN.out]; simp; omega))
              clear ho10 hg10 ho9 hg9 hb9 hb10
              go_wp2
              go_ret
              rw [← HME.out]
              exact ⟨rfl, _, _, _, _, HF.out.1, (Fr.of_below HBV.out _).same HF.out.2⟩
          · skip
            go_simp
            refine hK.out _ _ (below_step hS0 (below_alloc _ _)) (fun _ => ?_)
            clear hK K
            try simp only [Act.put, List.getElem_toArray, List.getElem_cons_succ, List.getElem_cons_zero, List.setIfInBounds_toArray, List.set_cons_succ, List.set_cons_zero]
            refine wpAnyW_world (fun V => Below V0.heap.size V0 V ∧ Blk V V0.drew.heap.size 33 #[.int .i64 x.ref, .int .i64 x.fr, .int .i64 x.to]) ⟨below_step hS0 (below_alloc _ _), Blk.new _ _ _⟩ ?_
            rintro W6 ⟨hb6, hk6⟩
            refine wpAnyW_ready (rs := [1]) (by kernel_rfl) (by simp) ?_
            refine AllReadyW.cons rfl (fun K hK => ?_) AllReadyW.nil
            go_simp
            refine hK.out _ _ (below_step hb6 (below_alloc _ _)) (fun _ => ?_)
            clear hK K
            try simp only [Act.put, List.getElem_toArray, List.getElem_cons_succ, List.getElem_cons_zero, List.setIfInBounds_toArray, List.set_cons_succ, List.set_cons_zero]
            refine wpAnyW_world (fun V => Below V0.heap.size V0 V ∧ V.ownsRow V0.heap.size 33 3 (.slice (some ⟨W6.heap.size, 0, none⟩) 0 0) 0 [] ∧ Blk V V0.drew.heap.size 33 #[.int .i64 x.ref, .int .i64 x.fr, .int .i64 x.to] ∧ (Value.slice (some ⟨W6.heap.size, 0, none⟩) 0 0).ownBlock ≠ some V0.drew.heap.size) ⟨below_step hb6 (below_alloc _ _), own_made (W := W6) V0.heap.size 33 3 (Below.size hb6), hk6.alloc _, fun e9 => by have h9 := hk6.lt; simp [Value.ownBlock] at e9 h9; omega⟩ ?_
            rintro W7 ⟨hb7, ho7, hk7, hne7⟩
            refine wpAnyW_ready (rs := [8]) (by kernel_rfl) (by simp) ?_
            refine AllReadyW.cons rfl (fun K hK => ?_) AllReadyW.nil
            refine step_appO watchT (by kernel_rfl) (.tmp 49) (.tmp 55) rfl V0.heap.size 0 [] _ ho7 none q cW ((M.take q).flatMap encW) (by rfl) (by rfl) HL2.out (HC2.out _ hb7) (encW_one _) (by unfold maxLen; omega) (by omega) (Below.size hb7) ?_
            intro v8 W8 ho8 hg8 hat8
            have hb8 : Below V0.heap.size V0 W8 := own_growL ho7 hb7 hg8 (Below.size hb7)
            have hk8 := hk7.grown hg8 (fun e9 => hne7 e9.symm)
            have hne8 : v8.ownBlock ≠ some V0.drew.heap.size := fun e9 => by rcases hat8 with h9 | h9; exact hne7 (h9.symm.trans e9); (have h8 := hk7.lt; rw [h9] at e9; injection e9 with e9; omega)
            refine hK.out _ _ hb8 (fun _ => ?_)
            clear hK K
            try simp only [Act.put, List.getElem_toArray, List.getElem_cons_succ, List.getElem_cons_zero, List.setIfInBounds_toArray, List.set_cons_succ, List.set_cons_zero]
            refine wpAnyW_ready (rs := [11]) (by kernel_rfl) (by simp) ?_
            refine AllReadyW.cons rfl (fun K hK => ?_) AllReadyW.nil
            refine step_appO watchT (by kernel_rfl) (.tmp 56) (.tmp 58) rfl V0.heap.size (0 + q) ([] ++ ((M.take q).flatMap encW)) _ ho8 _ 1 1 (encW x) (by rfl) (by rfl) rfl (cs_blk9 hk8) (by intro u hu; simp [encW] at hu; rcases hu with rfl | rfl | rfl <;> rfl) (by unfold maxLen; omega) (by omega) (Below.size hb8) ?_
            intro v9 Wx ho9 hg9 _
            have hb9 : Below V0.heap.size V0 Wx := own_growL ho8 hb8 hg9 (Below.size hb8)
            refine hK.out _ _ hb9 (fun _ => ?_)
            clear hK K
            try simp only [Act.put, List.getElem_toArray, List.getElem_cons_succ, List.getElem_cons_zero, List.setIfInBounds_toArray, List.set_cons_succ, List.set_cons_zero]
            refine wpAnyW_ready (rs := [18]) (by kernel_rfl) (by simp) ?_
            refine AllReadyW.cons rfl (fun K hK => ?_) AllReadyW.nil
            refine step_appO watchT (by kernel_rfl) (.tmp 59) (.tmp 65) rfl V0.heap.size (0 + q + 1) ([] ++ ((M.take q).flatMap encW) ++ encW x) v9 ho9 none (n - q) (cW - q) ((M.drop q).flatMap encW) (by rfl) (by rfl) HL3.out (HC3.out _ hb9) (encW_one _) (by unfold maxLen; omega) (by omega) (Below.size hb9) ?_
            intro v10 Wy ho10 hg10 _
            have hb10 : Below V0.heap.size V0 Wy := own_growL ho9 hb9 hg10 (Below.size hb9)
            refine hK.out _ _ hb10 (fun _ => ?_)
            clear hK K
            try simp only [Act.put, List.getElem_toArray, List.getElem_cons_succ, List.getElem_cons_zero, List.setIfInBounds_toArray, List.set_cons_succ, List.set_cons_zero]
            rw [HMM.out, List.nil_append] at ho10
            obtain ⟨A2, c2, rfl⟩ := own_slice9 ho10
            (refine wpAnyW_take (i := 19) (v := ?_) rfl (by kernel_rfl) (by kernel_rfl) (by kernel_rfl) (by kernel_rfl) (fun _ _ _ h => h) (Or.inl ⟨by kernel_rfl, ?_⟩) (by assumption) ?_; rotate_left; focus (intro V9 hS9; go_simp; (try (with_reducible rfl)); done))
            try simp only [Act.put, List.getElem_toArray, List.getElem_cons_succ, List.getElem_cons_zero, List.setIfInBounds_toArray, List.set_cons_succ, List.set_cons_zero]
            (refine wpAnyW_take (i := 20) (v := ?_) rfl (by kernel_rfl) (by kernel_rfl) (by kernel_rfl) (by kernel_rfl) (fun _ _ _ h => h) (Or.inl ⟨by kernel_rfl, ?_⟩) (by assumption) ?_; rotate_left; focus (intro V9 hS9; go_simp; (try (with_reducible rfl)); done))
            try simp only [Act.put, List.getElem_toArray, List.getElem_cons_succ, List.getElem_cons_zero, List.setIfInBounds_toArray, List.set_cons_succ, List.set_cons_zero]
            refine wpAnyW_ready (rs := [21]) (by kernel_rfl) (by simp) ?_
            refine AllReadyW.consE rfl (by kernel_rfl) (fun K hK => ?_) AllReadyW.nil
            have hfz := HPF.out Wy hb10
            have gc := HSC.out Wy hb10
            go_simp
            refine hK.out _ _ ?_
            clear hK K
            refine wpAnyW_done (by kernel_rfl) ?_ _
            have HF := Lib.hid (HRK.out.setW HB0.out hb10 (show Wy.ownsRow V0.heap.size 33 3 (.slice A2 (n + 1) c2) (n + 1) ((M.take q ++ [x] ++ M.drop q).flatMap encW) by rw [List.flatMap_append, List.flatMap_append]; simpa using ho10) (by rw [List.length_append, List.length_append, List.length_take, List.length_drop, HN.out]; simp; omega))
            clear ho10 hg10 ho9 hg9 hb9 hb10
            go_wp2
            go_ret
            rw [← HME.out]
            exact ⟨rfl, _, _, _, _, HF.out.1, (Fr.of_below HBV.out _).same HF.out.2⟩
        | some ga =>
          obtain ⟨g, hga, hc⟩ := own_at9y (by have h9 := HR.out.w; rw [HN.out] at h9; exact h9)
          subst hga
          have hcm : cW ≤ 9223372036854775807 := by obtain ⟨_, _, _, _, h9⟩ := own_openK HR.out.w; unfold maxLen at h9; omega
          rintro V0 hbV
          have HBV := Lib.hid (HBW.out.trans (hbV.mono HBW.out.size))
          have HRK := Lib.hid (HR.out.keep hbV)
          have HB0 := Lib.hid (show B ≤ V0.heap.size by have h1 := HB.out; have h2 := HBW.out.size; have h3 := hbV.size; omega)
          have HBX : Hid (∀ V, Below V0.heap.size V0 V → V.cell? ⟨g0, 0, none⟩ = some (.int .i64 x.ref) ∧ V.cell? ⟨g0, 1, none⟩ = some (.int .i64 x.fr) ∧ V.cell? ⟨g0, 2, none⟩ = some (.int .i64 x.to)) := fun V hb => by
            have h9 := (HBK.out.keep hbV).keep hb
            exact ⟨h9.cell 0, h9.cell 1, h9.cell 2⟩
          clear hbV
          have hrp := HRK.out.w
          rw [HN.out] at hrp
          have HC2 := Lib.hid (own_parts (z := 3) (fun _ => rfl) hrp HN.out q).1
          obtain ⟨A3, hA3, hc3⟩ := (own_parts (z := 3) (fun _ => rfl) hrp HN.out q).2
          have HC3 := Lib.hid hc3
          clear hrp hc3
          have HSC : Hid (∀ V, Below V0.heap.size V0 V → V.cell? ⟨pr, 1, none⟩ = some (.slice (some ⟨g, 0, none⟩) n cW)) := fun V hV => by rw [← HN.out]; exact (HRK.out.keep hV).obj.cell 1
          have HPF : Hid (∀ V, Below V0.heap.size V0 V → V.frozen? ⟨pr, 1, none⟩ = false) := fun V hV => (HRK.out.keep hV).obj.frozen 1
          have HL2 := Lib.hid (show (((M.take q).flatMap encW)).length = q * 3 by rw [flat_len (enc := encW) (k := 3) (fun _ => rfl), List.length_take, HN.out, Nat.min_eq_left (by omega)])
          have HL3 := Lib.hid (show (((M.drop q).flatMap encW)).length = (n - q) * 3 by rw [flat_len (enc := encW) (k := 3) (fun _ => rfl), List.length_drop, HN.out])
          have HMM := Lib.hid (show 0 + q + 1 + (n - q) = n + 1 by omega)
          have hplt := HRK.out.obj.lt
          have hic : q ≤ cW := by omega
          have y0 : (0 : Int) ≤ (q : Int) := by omega
          have y2 : (q : Int) ≤ (n : Int) := by omega
          have qi : (q : Int) ≤ (cW : Int) := by omega
          refine wp_region_W 21 (fun V => Below V0.heap.size V0 V) (by kernel_rfl) ?_ (fun hS0 => ?_)
          · exact (Below.refl _ _).drew
          (refine wpAnyW_take (i := 0) (v := ?_) rfl (by kernel_rfl) (by kernel_rfl) (by kernel_rfl) (by kernel_rfl) (fun _ _ _ h => h) (Or.inl ⟨by kernel_rfl, ?_⟩) (by assumption) ?_; rotate_left; focus (intro V9 hS9; go_simp; (try (with_reducible rfl)); done))
          try simp only [Act.put, List.getElem_toArray, List.getElem_cons_zero, List.setIfInBounds_toArray, List.set_cons_succ, List.set_cons_zero]
          (refine wpAnyW_take (i := 2) (v := ?_) rfl (by kernel_rfl) (by kernel_rfl) (by kernel_rfl) (by kernel_rfl) (fun _ _ _ h => h) (Or.inl ⟨by kernel_rfl, ?_⟩) (by assumption) ?_; rotate_left; focus (intro V9 hS9; go_simp; (try (with_reducible rfl)); done))
          try simp only [Act.put, List.getElem_toArray, List.getElem_cons_succ, List.getElem_cons_zero, List.setIfInBounds_toArray, List.set_cons_succ, List.set_cons_zero]
          (refine wpAnyW_take (i := 3) (v := ?_) rfl (by kernel_rfl) (by kernel_rfl) (by kernel_rfl) (by kernel_rfl) (fun _ _ _ h => h) (Or.inl ⟨by kernel_rfl, ?_⟩) (by assumption) ?_; rotate_left; focus (intro V9 hS9; go_simp; (try (with_reducible rfl)); done))
          try simp only [Act.put, List.getElem_toArray, List.getElem_cons_succ, List.getElem_cons_zero, List.setIfInBounds_toArray, List.set_cons_succ, List.set_cons_zero]
          (refine wpAnyW_take (i := 4) (v := ?_) rfl (by kernel_rfl) (by kernel_rfl) (by kernel_rfl) (by kernel_rfl) (fun _ _ _ h => h) (Or.inl ⟨by kernel_rfl, ?_⟩) (by assumption) ?_; rotate_left; focus (intro V9 hS9; go_simp; (try (with_reducible rfl)); done))
          try simp only [Act.put, List.getElem_toArray, List.getElem_cons_succ, List.getElem_cons_zero, List.setIfInBounds_toArray, List.set_cons_succ, List.set_cons_zero]
          (refine wpAnyW_take (i := 5) (v := ?_) rfl (by kernel_rfl) (by kernel_rfl) (by kernel_rfl) (by kernel_rfl) (fun _ _ _ h => h) (Or.inl ⟨by kernel_rfl, ?_⟩) (by assumption) ?_; rotate_left; focus (intro V9 hS9; have g0 := HSC.out V9 hS9; go_simp; (try (with_reducible rfl)); done))
          try simp only [Act.put, List.getElem_toArray, List.getElem_cons_succ, List.getElem_cons_zero, List.setIfInBounds_toArray, List.set_cons_succ, List.set_cons_zero]
          (refine wpAnyW_take (i := 6) (v := ?_) rfl (by kernel_rfl) (by kernel_rfl) (by kernel_rfl) (by kernel_rfl) (fun _ _ _ h => h) (Or.inl ⟨by kernel_rfl, ?_⟩) (by assumption) ?_; rotate_left; focus (intro V9 hS9; go_simp; (try (with_reducible rfl)); done))
          try simp only [Act.put, List.getElem_toArray, List.getElem_cons_succ, List.getElem_cons_zero, List.setIfInBounds_toArray, List.set_cons_succ, List.set_cons_zero]
          (refine wpAnyW_take (i := 7) (v := ?_) rfl (by kernel_rfl) (by kernel_rfl) (by kernel_rfl) (by kernel_rfl) (fun _ _ _ h => h) (Or.inl ⟨by kernel_rfl, ?_⟩) (by assumption) ?_; rotate_left; focus (intro V9 hS9; go_simp; (try (with_reducible rfl)); done))
          try simp only [Act.put, List.getElem_toArray, List.getElem_cons_succ, List.getElem_cons_zero, List.setIfInBounds_toArray, List.set_cons_succ, List.set_cons_zero]
          (refine wpAnyW_take (i := 9) (v := ?_) rfl (by kernel_rfl) (by kernel_rfl) (by kernel_rfl) (by kernel_rfl) (fun _ _ _ h => h) (Or.inl ⟨by kernel_rfl, ?_⟩) (by assumption) ?_; rotate_left; focus (intro V9 hS9; obtain ⟨k0, k1, k2⟩ := HBX.out V9 hS9; go_simp; (try (with_reducible rfl)); done))
          try simp only [Act.put, List.getElem_toArray, List.getElem_cons_succ, List.getElem_cons_zero, List.setIfInBounds_toArray, List.set_cons_succ, List.set_cons_zero]
          (refine wpAnyW_take (i := 12) (v := ?_) rfl (by kernel_rfl) (by kernel_rfl) (by kernel_rfl) (by kernel_rfl) (fun _ _ _ h => h) (Or.inl ⟨by kernel_rfl, ?_⟩) (by assumption) ?_; rotate_left; focus (intro V9 hS9; go_simp; (try (with_reducible rfl)); done))
          try simp only [Act.put, List.getElem_toArray, List.getElem_cons_succ, List.getElem_cons_zero, List.setIfInBounds_toArray, List.set_cons_succ, List.set_cons_zero]
          (refine wpAnyW_take (i := 13) (v := ?_) rfl (by kernel_rfl) (by kernel_rfl) (by kernel_rfl) (by kernel_rfl) (fun _ _ _ h => h) (Or.inl ⟨by kernel_rfl, ?_⟩) (by assumption) ?_; rotate_left; focus (intro V9 hS9; go_simp; (try (with_reducible rfl)); done))
          try simp only [Act.put, List.getElem_toArray, List.getElem_cons_succ, List.getElem_cons_zero, List.setIfInBounds_toArray, List.set_cons_succ, List.set_cons_zero]
          (refine wpAnyW_take (i := 14) (v := ?_) rfl (by kernel_rfl) (by kernel_rfl) (by kernel_rfl) (by kernel_rfl) (fun _ _ _ h => h) (Or.inl ⟨by kernel_rfl, ?_⟩) (by assumption) ?_; rotate_left; focus (intro V9 hS9; go_simp; (try (with_reducible rfl)); done))
          try simp only [Act.put, List.getElem_toArray, List.getElem_cons_succ, List.getElem_cons_zero, List.setIfInBounds_toArray, List.set_cons_succ, List.set_cons_zero]
          (refine wpAnyW_take (i := 15) (v := ?_) rfl (by kernel_rfl) (by kernel_rfl) (by kernel_rfl) (by kernel_rfl) (fun _ _ _ h => h) (Or.inl ⟨by kernel_rfl, ?_⟩) (by assumption) ?_; rotate_left; focus (intro V9 hS9; have g0 := HSC.out V9 hS9; go_simp; (try (with_reducible rfl)); done))
          try simp only [Act.put, List.getElem_toArray, List.getElem_cons_succ, List.getElem_cons_zero, List.setIfInBounds_toArray, List.set_cons_succ, List.set_cons_zero]
          (refine wpAnyW_take (i := 16) (v := ?_) rfl (by kernel_rfl) (by kernel_rfl) (by kernel_rfl) (by kernel_rfl) (fun _ _ _ h => h) (Or.inl ⟨by kernel_rfl, ?_⟩) (by assumption) ?_; rotate_left; focus (intro V9 hS9; go_simp; (try (with_reducible rfl)); done))
          try simp only [Act.put, List.getElem_toArray, List.getElem_cons_succ, List.getElem_cons_zero, List.setIfInBounds_toArray, List.set_cons_succ, List.set_cons_zero]
          (refine wpAnyW_take (i := 17) (v := ?_) rfl (by kernel_rfl) (by kernel_rfl) (by kernel_rfl) (by kernel_rfl) (fun _ _ _ h => h) (Or.inl ⟨by kernel_rfl, ?_⟩) (by assumption) ?_; rotate_left; focus (intro V9 hS9; go_simp; (try (with_reducible rfl)); done))
          try simp only [Act.put, List.getElem_toArray, List.getElem_cons_succ, List.getElem_cons_zero, List.setIfInBounds_toArray, List.set_cons_succ, List.set_cons_zero]
          refine wpAnyW_ready (rs := [1, 10]) (by kernel_rfl) (by simp) ?_
          refine AllReadyW.cons rfl (fun K hK => ?_) (AllReadyW.cons rfl (fun K hK => ?_) AllReadyW.nil)
          · skip
            go_simp
            refine hK.out _ _ (below_step hS0 (below_alloc _ _)) (fun _ => ?_)
            clear hK K
            try simp only [Act.put, List.getElem_toArray, List.getElem_cons_succ, List.getElem_cons_zero, List.setIfInBounds_toArray, List.set_cons_succ, List.set_cons_zero]
            refine wpAnyW_world (fun V => Below V0.heap.size V0 V ∧ V.ownsRow V0.heap.size 33 3 (.slice (some ⟨V0.drew.heap.size, 0, none⟩) 0 0) 0 []) ⟨below_step hS0 (below_alloc _ _), own_made (W := V0.drew) V0.heap.size 33 3 (Below.size hS0)⟩ ?_
            rintro W1 ⟨hb1, ho1⟩
            refine wpAnyW_ready (rs := [8, 10]) (by kernel_rfl) (by simp) ?_
            refine AllReadyW.cons rfl (fun K hK => ?_) (AllReadyW.cons rfl (fun K hK => ?_) AllReadyW.nil)
            · skip
              refine step_appO watchT (by kernel_rfl) (.tmp 49) (.tmp 55) rfl V0.heap.size 0 [] _ ho1 (some ⟨g, 0, none⟩) q cW ((M.take q).flatMap encW) (by rfl) (by rfl) HL2.out (HC2.out _ hb1) (encW_one _) (by unfold maxLen; omega) (by omega) (Below.size hb1) ?_
              intro v2 W2 ho2 hg2 hat2
              have hb2 : Below V0.heap.size V0 W2 := own_growL ho1 hb1 hg2 (Below.size hb1)
              refine hK.out _ _ hb2 (fun _ => ?_)
              clear hK K
              try simp only [Act.put, List.getElem_toArray, List.getElem_cons_succ, List.getElem_cons_zero, List.setIfInBounds_toArray, List.set_cons_succ, List.set_cons_zero]
              refine wpAnyW_ready (rs := [10]) (by kernel_rfl) (by simp) ?_
              refine AllReadyW.cons rfl (fun K hK => ?_) AllReadyW.nil
              go_simp
              refine hK.out _ _ (below_step hb2 (below_alloc _ _)) (fun _ => ?_)
              clear hK K
              try simp only [Act.put, List.getElem_toArray, List.getElem_cons_succ, List.getElem_cons_zero, List.setIfInBounds_toArray, List.set_cons_succ, List.set_cons_zero]
              refine wpAnyW_world (fun V => Below V0.heap.size V0 V ∧ Blk V W2.heap.size 33 #[.int .i64 x.ref, .int .i64 x.fr, .int .i64 x.to] ∧ V.ownsRow V0.heap.size 33 3 v2 (0 + q) ([] ++ ((M.take q).flatMap encW)) ∧ (v2).ownBlock ≠ some W2.heap.size) ⟨below_step hb2 (below_alloc _ _), Blk.new _ _ _, ho2.alloc _, fun e9 => Nat.lt_irrefl _ (World.ownsRow.lt ho2 _ e9).2⟩ ?_
              rintro W3 ⟨hb3, hk3, ho3, hne3⟩
              refine wpAnyW_ready (rs := [11]) (by kernel_rfl) (by simp) ?_
              refine AllReadyW.cons rfl (fun K hK => ?_) AllReadyW.nil
              refine step_appO watchT (by kernel_rfl) (.tmp 56) (.tmp 58) rfl V0.heap.size (0 + q) ([] ++ ((M.take q).flatMap encW)) _ ho3 _ 1 1 (encW x) (by rfl) (by rfl) rfl (cs_blk9 hk3) (by intro u hu; simp [encW] at hu; rcases hu with rfl | rfl | rfl <;> rfl) (by unfold maxLen; omega) (by omega) (Below.size hb3) ?_
              intro v9 Wx ho9 hg9 _
              have hb9 : Below V0.heap.size V0 Wx := own_growL ho3 hb3 hg9 (Below.size hb3)
              refine hK.out _ _ hb9 (fun _ => ?_)
              clear hK K
              try simp only [Act.put, List.getElem_toArray, List.getElem_cons_succ, List.getElem_cons_zero, List.setIfInBounds_toArray, List.set_cons_succ, List.set_cons_zero]
              refine wpAnyW_ready (rs := [18]) (by kernel_rfl) (by simp) ?_
              refine AllReadyW.cons rfl (fun K hK => ?_) AllReadyW.nil
              refine step_appO watchT (by kernel_rfl) (.tmp 59) (.tmp 65) rfl V0.heap.size (0 + q + 1) ([] ++ ((M.take q).flatMap encW) ++ encW x) v9 ho9 (some A3) (n - q) (cW - q) ((M.drop q).flatMap encW) (by rfl) (by rfl) HL3.out (HC3.out _ hb9) (encW_one _) (by unfold maxLen; omega) (by omega) (Below.size hb9) ?_
              intro v10 Wy ho10 hg10 _
              have hb10 : Below V0.heap.size V0 Wy := own_growL ho9 hb9 hg10 (Below.size hb9)
              refine hK.out _ _ hb10 (fun _ => ?_)
              clear hK K
              try simp only [Act.put, List.getElem_toArray, List.getElem_cons_succ, List.getElem_cons_zero, List.setIfInBounds_toArray, List.set_cons_succ, List.set_cons_zero]
              rw [HMM.out, List.nil_append] at ho10
              obtain ⟨A2, c2, rfl⟩ := own_slice9 ho10
              (refine wpAnyW_take (i := 19) (v := ?_) rfl (by kernel_rfl) (by kernel_rfl) (by kernel_rfl) (by kernel_rfl) (fun _ _ _ h => h) (Or.inl ⟨by kernel_rfl, ?_⟩) (by assumption) ?_; rotate_left; focus (intro V9 hS9; go_simp; (try (with_reducible rfl)); done))
              try simp only [Act.put, List.getElem_toArray, List.getElem_cons_succ, List.getElem_cons_zero, List.setIfInBounds_toArray, List.set_cons_succ, List.set_cons_zero]
              (refine wpAnyW_take (i := 20) (v := ?_) rfl (by kernel_rfl) (by kernel_rfl) (by kernel_rfl) (by kernel_rfl) (fun _ _ _ h => h) (Or.inl ⟨by kernel_rfl, ?_⟩) (by assumption) ?_; rotate_left; focus (intro V9 hS9; go_simp; (try (with_reducible rfl)); done))
              try simp only [Act.put, List.getElem_toArray, List.getElem_cons_succ, List.getElem_cons_zero, List.setIfInBounds_toArray, List.set_cons_succ, List.set_cons_zero]
              refine wpAnyW_ready (rs := [21]) (by kernel_rfl) (by simp) ?_
              refine AllReadyW.consE rfl (by kernel_rfl) (fun K hK => ?_) AllReadyW.nil
              have hfz := HPF.out Wy hb10
              have gc := HSC.out Wy hb10
              go_simp
              refine hK.out _ _ ?_
              clear hK K
              refine wpAnyW_done (by kernel_rfl) ?_ _
              have HF := Lib.hid (HRK.out.setW HB0.out hb10 (show Wy.ownsRow V0.heap.size 33 3 (.slice A2 (n + 1) c2) (n + 1) ((M.take q ++ [x] ++ M.drop q).flatMap encW) by rw [List.flatMap_append, List.flatMap_append]; simpa using ho10) (by rw [List.length_append, List.length_append, List.length_take, List.length_drop, HN.out]; simp; omega))
              clear ho10 hg10 ho9 hg9 hb9 hb10
              go_wp2
              go_ret
              rw [← HME.out]
              exact ⟨rfl, _, _, _, _, HF.out.1, (Fr.of_below HBV.out _).same HF.out.2⟩
            · skip
              go_simp
              refine hK.out _ _ (below_step hb1 (below_alloc _ _)) (fun _ => ?_)
              clear hK K
              try simp only [Act.put, List.getElem_toArray, List.getElem_cons_succ, List.getElem_cons_zero, List.setIfInBounds_toArray, List.set_cons_succ, List.set_cons_zero]
              refine wpAnyW_world (fun V => Below V0.heap.size V0 V ∧ Blk V W1.heap.size 33 #[.int .i64 x.ref, .int .i64 x.fr, .int .i64 x.to] ∧ V.ownsRow V0.heap.size 33 3 (Value.slice (some ⟨V0.drew.heap.size, 0, none⟩) 0 0) 0 [] ∧ ((Value.slice (some ⟨V0.drew.heap.size, 0, none⟩) 0 0)).ownBlock ≠ some W1.heap.size) ⟨below_step hb1 (below_alloc _ _), Blk.new _ _ _, ho1.alloc _, fun e9 => Nat.lt_irrefl _ (World.ownsRow.lt ho1 _ e9).2⟩ ?_
              rintro W4 ⟨hb4, hk4, ho4, hne4⟩
              refine wpAnyW_ready (rs := [8]) (by kernel_rfl) (by simp) ?_
              refine AllReadyW.cons rfl (fun K hK => ?_) AllReadyW.nil
              refine step_appO watchT (by kernel_rfl) (.tmp 49) (.tmp 55) rfl V0.heap.size 0 [] _ ho4 (some ⟨g, 0, none⟩) q cW ((M.take q).flatMap encW) (by rfl) (by rfl) HL2.out (HC2.out _ hb4) (encW_one _) (by unfold maxLen; omega) (by omega) (Below.size hb4) ?_
              intro v5 W5 ho5 hg5 hat5
              have hb5 : Below V0.heap.size V0 W5 := own_growL ho4 hb4 hg5 (Below.size hb4)
              have hk5 := hk4.grown hg5 (fun e9 => hne4 e9.symm)
              have hne5 : v5.ownBlock ≠ some W1.heap.size := fun e9 => by rcases hat5 with h9 | h9; exact hne4 (h9.symm.trans e9); (have h8 := hk4.lt; rw [h9] at e9; injection e9 with e9; omega)
              refine hK.out _ _ hb5 (fun _ => ?_)
              clear hK K
              try simp only [Act.put, List.getElem_toArray, List.getElem_cons_succ, List.getElem_cons_zero, List.setIfInBounds_toArray, List.set_cons_succ, List.set_cons_zero]
              refine wpAnyW_ready (rs := [11]) (by kernel_rfl) (by simp) ?_
              refine AllReadyW.cons rfl (fun K hK => ?_) AllReadyW.nil
              refine step_appO watchT (by kernel_rfl) (.tmp 56) (.tmp 58) rfl V0.heap.size (0 + q) ([] ++ ((M.take q).flatMap encW)) _ ho5 _ 1 1 (encW x) (by rfl) (by rfl) rfl (cs_blk9 hk5) (by intro u hu; simp [encW] at hu; rcases hu with rfl | rfl | rfl <;> rfl) (by unfold maxLen; omega) (by omega) (Below.size hb5) ?_
              intro v9 Wx ho9 hg9 _
              have hb9 : Below V0.heap.size V0 Wx := own_growL ho5 hb5 hg9 (Below.size hb5)
              refine hK.out _ _ hb9 (fun _ => ?_)
              clear hK K
              try simp only [Act.put, List.getElem_toArray, List.getElem_cons_succ, List.getElem_cons_zero, List.setIfInBounds_toArray, List.set_cons_succ, List.set_cons_zero]
              refine wpAnyW_ready (rs := [18]) (by kernel_rfl) (by simp) ?_
              refine AllReadyW.cons rfl (fun K hK => ?_) AllReadyW.nil
              refine step_appO watchT (by kernel_rfl) (.tmp 59) (.tmp 65) rfl V0.heap.size (0 + q + 1) ([] ++ ((M.take q).flatMap encW) ++ encW x) v9 ho9 (some A3) (n - q) (cW - q) ((M.drop q).flatMap encW) (by rfl) (by rfl) HL3.out (HC3.out _ hb9) (encW_one _) (by unfold maxLen; omega) (by omega) (Below.size hb9) ?_
              intro v10 Wy ho10 hg10 _
              have hb10 : Below V0.heap.size V0 Wy := own_growL ho9 hb9 hg10 (Below.size hb9)
              refine hK.out _ _ hb10 (fun _ => ?_)
              clear hK K
              try simp only [Act.put, List.getElem_toArray, List.getElem_cons_succ, List.getElem_cons_zero, List.setIfInBounds_toArray, List.set_cons_succ, List.set_cons_zero]
              rw [HMM.out, List.nil_append] at ho10
              obtain ⟨A2, c2, rfl⟩ := own_slice9 ho10
              (refine wpAnyW_take (i := 19) (v := ?_) rfl (by kernel_rfl) (by kernel_rfl) (by kernel_rfl) (by kernel_rfl) (fun _ _ _ h => h) (Or.inl ⟨by kernel_rfl, ?_⟩) (by assumption) ?_; rotate_left; focus (intro V9 hS9; go_simp; (try (with_reducible rfl)); done))
              try simp only [Act.put, List.getElem_toArray, List.getElem_cons_succ, List.getElem_cons_zero, List.setIfInBounds_toArray, List.set_cons_succ, List.set_cons_zero]
              (refine wpAnyW_take (i := 20) (v := ?_) rfl (by kernel_rfl) (by kernel_rfl) (by kernel_rfl) (by kernel_rfl) (fun _ _ _ h => h) (Or.inl ⟨by kernel_rfl, ?_⟩) (by assumption) ?_; rotate_left; focus (intro V9 hS9; go_simp; (try (with_reducible rfl)); done))
              try simp only [Act.put, List.getElem_toArray, List.getElem_cons_succ, List.getElem_cons_zero, List.setIfInBounds_toArray, List.set_cons_succ, List.set_cons_zero]
              refine wpAnyW_ready (rs := [21]) (by kernel_rfl) (by simp) ?_
              refine AllReadyW.consE rfl (by kernel_rfl) (fun K hK => ?_) AllReadyW.nil
              have hfz := HPF.out Wy hb10
              have gc := HSC.out Wy hb10
              go_simp
              refine hK.out _ _ ?_
              clear hK K
              refine wpAnyW_done (by kernel_rfl) ?_ _
              have HF := Lib.hid (HRK.out.setW HB0.out hb10 (show Wy.ownsRow V0.heap.size 33 3 (.slice A2 (n + 1) c2) (n + 1) ((M.take q ++ [x] ++ M.drop q).flatMap encW) by rw [List.flatMap_append, List.flatMap_append]; simpa using ho10) (by rw [List.length_append, List.length_append, List.length_take, List.length_drop, HN.out]; simp; omega))
              clear ho10 hg10 ho9 hg9 hb9 hb10
              go_wp2
              go_ret
              rw [← HME.out]
              exact ⟨rfl, _, _, _, _, HF.out.1, (Fr.of_below HBV.out _).same HF.out.2⟩
          · skip
            go_simp
            refine hK.out _ _ (below_step hS0 (below_alloc _ _)) (fun _ => ?_)
            clear hK K
            try simp only [Act.put, List.getElem_toArray, List.getElem_cons_succ, List.getElem_cons_zero, List.setIfInBounds_toArray, List.set_cons_succ, List.set_cons_zero]
            refine wpAnyW_world (fun V => Below V0.heap.size V0 V ∧ Blk V V0.drew.heap.size 33 #[.int .i64 x.ref, .int .i64 x.fr, .int .i64 x.to]) ⟨below_step hS0 (below_alloc _ _), Blk.new _ _ _⟩ ?_
            rintro W6 ⟨hb6, hk6⟩
            refine wpAnyW_ready (rs := [1]) (by kernel_rfl) (by simp) ?_
            refine AllReadyW.cons rfl (fun K hK => ?_) AllReadyW.nil
            go_simp
            refine hK.out _ _ (below_step hb6 (below_alloc _ _)) (fun _ => ?_)
            clear hK K
            try simp only [Act.put, List.getElem_toArray, List.getElem_cons_succ, List.getElem_cons_zero, List.setIfInBounds_toArray, List.set_cons_succ, List.set_cons_zero]
            refine wpAnyW_world (fun V => Below V0.heap.size V0 V ∧ V.ownsRow V0.heap.size 33 3 (.slice (some ⟨W6.heap.size, 0, none⟩) 0 0) 0 [] ∧ Blk V V0.drew.heap.size 33 #[.int .i64 x.ref, .int .i64 x.fr, .int .i64 x.to] ∧ (Value.slice (some ⟨W6.heap.size, 0, none⟩) 0 0).ownBlock ≠ some V0.drew.heap.size) ⟨below_step hb6 (below_alloc _ _), own_made (W := W6) V0.heap.size 33 3 (Below.size hb6), hk6.alloc _, fun e9 => by have h9 := hk6.lt; simp [Value.ownBlock] at e9 h9; omega⟩ ?_
            rintro W7 ⟨hb7, ho7, hk7, hne7⟩
            refine wpAnyW_ready (rs := [8]) (by kernel_rfl) (by simp) ?_
            refine AllReadyW.cons rfl (fun K hK => ?_) AllReadyW.nil
            refine step_appO watchT (by kernel_rfl) (.tmp 49) (.tmp 55) rfl V0.heap.size 0 [] _ ho7 (some ⟨g, 0, none⟩) q cW ((M.take q).flatMap encW) (by rfl) (by rfl) HL2.out (HC2.out _ hb7) (encW_one _) (by unfold maxLen; omega) (by omega) (Below.size hb7) ?_
            intro v8 W8 ho8 hg8 hat8
            have hb8 : Below V0.heap.size V0 W8 := own_growL ho7 hb7 hg8 (Below.size hb7)
            have hk8 := hk7.grown hg8 (fun e9 => hne7 e9.symm)
            have hne8 : v8.ownBlock ≠ some V0.drew.heap.size := fun e9 => by rcases hat8 with h9 | h9; exact hne7 (h9.symm.trans e9); (have h8 := hk7.lt; rw [h9] at e9; injection e9 with e9; omega)
            refine hK.out _ _ hb8 (fun _ => ?_)
            clear hK K
            try simp only [Act.put, List.getElem_toArray, List.getElem_cons_succ, List.getElem_cons_zero, List.setIfInBounds_toArray, List.set_cons_succ, List.set_cons_zero]
            refine wpAnyW_ready (rs := [11]) (by kernel_rfl) (by simp) ?_
            refine AllReadyW.cons rfl (fun K hK => ?_) AllReadyW.nil
            refine step_appO watchT (by kernel_rfl) (.tmp 56) (.tmp 58) rfl V0.heap.size (0 + q) ([] ++ ((M.take q).flatMap encW)) _ ho8 _ 1 1 (encW x) (by rfl) (by rfl) rfl (cs_blk9 hk8) (by intro u hu; simp [encW] at hu; rcases hu with rfl | rfl | rfl <;> rfl) (by unfold maxLen; omega) (by omega) (Below.size hb8) ?_
            intro v9 Wx ho9 hg9 _
            have hb9 : Below V0.heap.size V0 Wx := own_growL ho8 hb8 hg9 (Below.size hb8)
            refine hK.out _ _ hb9 (fun _ => ?_)
            clear hK K
            try simp only [Act.put, List.getElem_toArray, List.getElem_cons_succ, List.getElem_cons_zero, List.setIfInBounds_toArray, List.set_cons_succ, List.set_cons_zero]
            refine wpAnyW_ready (rs := [18]) (by kernel_rfl) (by simp) ?_
            refine AllReadyW.cons rfl (fun K hK => ?_) AllReadyW.nil
            refine step_appO watchT (by kernel_rfl) (.tmp 59) (.tmp 65) rfl V0.heap.size (0 + q + 1) ([] ++ ((M.take q).flatMap encW) ++ encW x) v9 ho9 (some A3) (n - q) (cW - q) ((M.drop q).flatMap encW) (by rfl) (by rfl) HL3.out (HC3.out _ hb9) (encW_one _) (by unfold maxLen; omega) (by omega) (Below.size hb9) ?_
            intro v10 Wy ho10 hg10 _
            have hb10 : Below V0.heap.size V0 Wy := own_growL ho9 hb9 hg10 (Below.size hb9)
            refine hK.out _ _ hb10 (fun _ => ?_)
            clear hK K
            try simp only [Act.put, List.getElem_toArray, List.getElem_cons_succ, List.getElem_cons_zero, List.setIfInBounds_toArray, List.set_cons_succ, List.set_cons_zero]
            rw [HMM.out, List.nil_append] at ho10
            obtain ⟨A2, c2, rfl⟩ := own_slice9 ho10
            (refine wpAnyW_take (i := 19) (v := ?_) rfl (by kernel_rfl) (by kernel_rfl) (by kernel_rfl) (by kernel_rfl) (fun _ _ _ h => h) (Or.inl ⟨by kernel_rfl, ?_⟩) (by assumption) ?_; rotate_left; focus (intro V9 hS9; go_simp; (try (with_reducible rfl)); done))
            try simp only [Act.put, List.getElem_toArray, List.getElem_cons_succ, List.getElem_cons_zero, List.setIfInBounds_toArray, List.set_cons_succ, List.set_cons_zero]
            (refine wpAnyW_take (i := 20) (v := ?_) rfl (by kernel_rfl) (by kernel_rfl) (by kernel_rfl) (by kernel_rfl) (fun _ _ _ h => h) (Or.inl ⟨by kernel_rfl, ?_⟩) (by assumption) ?_; rotate_left; focus (intro V9 hS9; go_simp; (try (with_reducible rfl)); done))
            try simp only [Act.put, List.getElem_toArray, List.getElem_cons_succ, List.getElem_cons_zero, List.setIfInBounds_toArray, List.set_cons_succ, List.set_cons_zero]
            refine wpAnyW_ready (rs := [21]) (by kernel_rfl) (by simp) ?_
            refine AllReadyW.consE rfl (by kernel_rfl) (fun K hK => ?_) AllReadyW.nil
            have hfz := HPF.out Wy hb10
            have gc := HSC.out Wy hb10
            go_simp
            refine hK.out _ _ ?_
            clear hK K
            refine wpAnyW_done (by kernel_rfl) ?_ _
            have HF := Lib.hid (HRK.out.setW HB0.out hb10 (show Wy.ownsRow V0.heap.size 33 3 (.slice A2 (n + 1) c2) (n + 1) ((M.take q ++ [x] ++ M.drop q).flatMap encW) by rw [List.flatMap_append, List.flatMap_append]; simpa using ho10) (by rw [List.length_append, List.length_append, List.length_take, List.length_drop, HN.out]; simp; omega))
            clear ho10 hg10 ho9 hg9 hb9 hb10
            go_wp2
            go_ret
            rw [← HME.out]
            exact ⟨rfl, _, _, _, _, HF.out.1, (Fr.of_below HBV.out _).same HF.out.2⟩
end
end Go.Proofs.Ytpfikhamokjdjaa
