/- The walk of the statement SpoolParts. -/
import Derived.Test.YtdmehbejfigaiaaSpLive
import Derived.Test.YtdmehbejfigaiaaBurst
import Derived.Deep.RegionHeld3
import Derived.Deep.DrawnRows
namespace Go.Proofs.Ytdmehbejfigaiaa
open Go.RowKit
set_option linter.unusedVariables false
attribute [local go_sem ↓] Go.wp_at_zero Go.wp_at_succ

theorem crcByte_state (s s' : BitVec 32) (c : UInt8) (h : crcByte s c = crcByte s' c) : s = s' := by
  unfold crcByte at h
  have h1 : crcBits 8 ((s ^^^ BitVec.ofNat 32 c.toNat) ^^^ (s' ^^^ BitVec.ofNat 32 c.toNat)) = 0#32 := by rw [crcBits_xor, h, BitVec.xor_self]
  have h2 := crcBits_inj 8 _ h1
  have h3 : s ^^^ s' = 0#32 := by
    rw [← h2, BitVec.xor_comm s' (BitVec.ofNat 32 c.toNat), BitVec.xor_assoc, ← BitVec.xor_assoc (BitVec.ofNat 32 c.toNat), BitVec.xor_self, BitVec.zero_xor]
  exact BitVec.xor_eq_zero_iff.1 h3
theorem crcByte_byte (s : BitVec 32) (c c' : UInt8) (h : crcByte s c = crcByte s c') : c = c' := by
  unfold crcByte at h
  have h1 : crcBits 8 ((s ^^^ BitVec.ofNat 32 c.toNat) ^^^ (s ^^^ BitVec.ofNat 32 c'.toNat)) = 0#32 := by rw [crcBits_xor, h, BitVec.xor_self]
  have h2 := crcBits_inj 8 _ h1
  have h3 : BitVec.ofNat 32 c.toNat = BitVec.ofNat 32 c'.toNat := by
    have h4 := BitVec.xor_eq_zero_iff.1 h2
    have h5 : s ^^^ (s ^^^ BitVec.ofNat 32 c.toNat) = s ^^^ (s ^^^ BitVec.ofNat 32 c'.toNat) := by rw [h4]
    rwa [← BitVec.xor_assoc, ← BitVec.xor_assoc, BitVec.xor_self, BitVec.zero_xor, BitVec.zero_xor] at h5
  have h6 := congrArg BitVec.toNat h3
  simp only [BitVec.toNat_ofNat] at h6
  have h7 := u8_lt c
  have h8 := u8_lt c'
  apply UInt8.toNat_inj.1
  omega
theorem fold_state (l : List UInt8) (s s' : BitVec 32) (h : l.foldl crcByte s = l.foldl crcByte s') : s = s' := by
  induction l generalizing s s' with
  | nil => exact h
  | cons c r ih => exact crcByte_state _ _ c (ih _ _ h)
/-- A byte that is another one has another sum. -/
theorem crc_set (l : List UInt8) (k : Nat) (x : UInt8) (hk : k < l.length) (h : crc (l.set k x) = crc l) : x = l[k] := by
  have h1 : crcReg (l.set k x) = crcReg l := by
    unfold crc at h
    have h2 := BitVec.eq_of_toNat_eq h
    have h3 := congrArg (fun y => ~~~ y) h2
    simpa using h3
  have e1 : l.set k x = l.take k ++ x :: l.drop (k + 1) := by
    rw [List.set_eq_take_append_cons_drop, if_pos hk]
  have e2 : l = l.take k ++ l[k] :: l.drop (k + 1) := by
    rw [← List.drop_eq_getElem_cons hk, List.take_append_drop]
  rw [e1] at h1
  conv at h1 => rhs; rw [e2]
  unfold crcReg at h1
  rw [List.foldl_append, List.foldl_append, List.foldl_cons, List.foldl_cons] at h1
  exact crcByte_byte _ _ _ (fold_state _ _ _ h1)

theorem Rd.set_ {w : World} {g off : Nat} {l : List UInt8} (h : Rd w (some ⟨g, off, none⟩) l) (k : Nat) (x : UInt8) (hk : k < l.length) : Rd (w.setCell ⟨g, off + k, none⟩ (bv x)) (some ⟨g, off, none⟩) (l.set k x) := by
  rcases h with rfl | ⟨b, o, hA, hc⟩
  · simp at hk
  · injection hA with hA
    injection hA with e1 e2
    subst e1 e2
    refine .inr ⟨g, off, rfl, fun j hj => ?_⟩
    have hj2 : j < l.length := by simpa using hj
    by_cases hjk : k = j
    · subst hjk
      rw [World.cell?_setCell_same _ _ _ (hc k hk)]
      simp
    · rw [World.cell?_setCell_other _ _ _ _ (by simp [hjk]), hc j hj2]
      simp [hjk]
theorem Rd.take_ {w : World} {A : Option Addr} {l : List UInt8} (h : Rd w A l) (n : Nat) : Rd w A (l.take n) := by
  rcases h with rfl | ⟨b, off, hA, hc⟩
  · exact .inl (by simp)
  · refine .inr ⟨b, off, hA, fun j hj => ?_⟩
    rw [List.length_take] at hj
    rw [hc j (by omega)]
    simp
theorem rdl_one {W : World} {B : Option Addr} {l : List UInt8} {n c t : Nat} (h : Rd W B l) (hl : l.length = n) : RdL (W.alloc (.cells #[.slice B n c] t)) (some ⟨W.heap.size, 0, none⟩) [l] := by
  refine .inr ⟨W.heap.size, 0, rfl, fun j hj => ?_⟩
  simp at hj
  subst hj
  refine ⟨B, c, ?_, h.below (below_alloc _ _)⟩
  subst hl
  exact (Blk.new W t _).cell 0
theorem rdl_mid {W : World} {B : Option Addr} {l : List UInt8} {n c t : Nat} (h : Rd W B l) (hl : l.length = n) : RdL (W.alloc (.cells #[.slice none 0 0, .slice B n c, .slice none 0 0] t)) (some ⟨W.heap.size, 0, none⟩) [[], l, []] := by
  refine .inr ⟨W.heap.size, 0, rfl, fun j hj => ?_⟩
  subst hl
  rcases j with _ | _ | _ | j
  · exact ⟨none, 0, (Blk.new W t _).cell 0, .inl rfl⟩
  · exact ⟨B, c, (Blk.new W t _).cell 1, h.below (below_alloc _ _)⟩
  · exact ⟨none, 0, (Blk.new W t _).cell 2, .inl rfl⟩
  · simp at hj; omega

set_option maxHeartbeats 600000 in
theorem parts_out (A : Option Addr) (n c : Nat) (cut at_ : Int) (b : Nat) (w : World) (h : 20000 < n ∨ (¬ 20000 < n ∧ cut < 0) ∨ (¬ 20000 < n ∧ ¬ cut < 0 ∧ (n : Int) < cut)) :
    Calls Try.prog 4 #[.slice A n c, .int .i64 cut, .int .i64 at_, .int .u8 b] w (Yes w) := by
  rcases h with h | ⟨h1, h2⟩ | ⟨h1, h2, h3⟩
  all_goals
    go_enter Try.func4, Try.ntmps4
    go_wp2_with (go_at_call 10; refine (live_any w).mono ?_; rintro e w1 ⟨rfl, hb1⟩)
    go_ret
    exact ⟨rfl, hb1⟩

set_option maxHeartbeats 2000000 in
theorem parts_in (A : Option Addr) (n c k : Nat) (at_ : Int) (b : Nat) (l : List UInt8) (w : World) (hl : l.length = n) (hnc : n ≤ c) (hcm : c ≤ 9223372036854775807) (hr : Rd w A l) (h1 : ¬ 20000 < n) (hk : k ≤ n) (hb8 : b < 256) :
    Calls Try.prog 4 #[.slice A n c, .int .i64 k, .int .i64 at_, .int .u8 b] w (Yes w) := by
  have HL := Lib.hid hl
  have HS1 := Lib.hid (sum_any (some ⟨w.heap.size, 0, none⟩) [l] l 1 1 (w.alloc (.cells #[.slice A n c] 22)) (by simp) rfl (by omega) (by omega) (rdl_one hr hl))
  have hd1 : decide ((k : Int) < 0) = false := by simp
  have hd2 : decide (n < k) = false := by simp; omega
  obtain ⟨cr, hcrl⟩ : ∃ cr, cr = crc l := ⟨_, rfl⟩
  rw [← hcrl] at HS1
  have HCR := Lib.hid hcrl
  clear hl hcrl
  go_enter Try.func4, Try.ntmps4
  go_upto_region 4 with (go_at_call 19; refine HS1.out.mono ?_; rintro e w1 ⟨rfl, hb1⟩)
  have hbw : Below w.heap.size w w1 := below_step (below_alloc w _) hb1
  refine wp_world (fun W => Below w.heap.size w W) hbw ?_
  clear hbw hb1 HS1
  intro w2 hb2
  have hr2 := hr.below hb2
  have q1 : (0 : Int) ≤ (k : Int) := by omega
  have q2 : (k : Int) ≤ (n : Int) := by omega
  have q3 : (k : Int) ≤ (c : Int) := by omega
  have q4 : (n : Int) ≤ (c : Int) := by omega
  have q5 : ((n : Int) - (k : Int)).toNat = n - k := by omega
  have q6 : ((c : Int) - (k : Int)).toNat = c - k := by omega
  obtain ⟨B2, m2, c2, hB2, hrB2, hm2⟩ : ∃ B2 m2 c2, ((c = k ∧ A = B2 ∧ m2 = 0 ∧ c2 = 0) ∨ (¬ c = k ∧ B2 = A.map (fun x => x.add k) ∧ m2 = n - k ∧ c2 = c - k)) ∧ Rd w2 B2 (l.drop k) ∧ (l.drop k).length = m2 := by
    by_cases hck : c = k
    · exact ⟨A, 0, 0, .inl ⟨hck, rfl, rfl, rfl⟩, .inl (List.drop_eq_nil_of_le (by rw [HL.out]; omega)), by rw [List.length_drop, HL.out]; omega⟩
    · refine ⟨_, _, _, .inr ⟨hck, rfl, rfl, rfl⟩, ?_, by rw [List.length_drop, HL.out]⟩
      have h9 := rd_part hr2 k (n - k)
      rwa [List.take_of_length_le (by rw [List.length_drop, HL.out]; exact Nat.le_refl _)] at h9
  have HS2 := Lib.hid (sum_any (some ⟨w2.heap.size, 0, none⟩) [l.take k, l.drop k] l 2 2 (w2.alloc (.cells #[.slice A k c, .slice B2 m2 c2] 22)).drew (by simp) rfl (by omega) (by rw [HL.out]; omega) ((rdl_two (hr2.take_ k) (by rw [List.length_take, HL.out]; omega) hrB2 hm2).below (Below.refl _ _).drew))
  have HS3 := Lib.hid (fun W (hb : Below w2.heap.size w2 W) => sum_any (some ⟨W.heap.size, 0, none⟩) [[], l, []] l 3 3 (W.alloc (.cells #[.slice none 0 0, .slice A n c, .slice none 0 0] 22)) (by simp) rfl (by omega) (by rw [HL.out]; omega) (rdl_mid (hr2.below hb) HL.out))
  rw [← HCR.out] at HS2 HS3
  clear hrB2 hm2
  have hbne : ((cr : Int) != (cr : Int)) = false := by simp
  rcases hB2 with ⟨rfl, rfl, rfl, rfl⟩ | ⟨hck, rfl, rfl, rfl⟩
  all_goals
    go_region_held3 (fun W => True) (trivial) ((first
      | (go_at_call 19
         first
           | (have H2 := HS2
              clear HS2
              refine H2.out.mono ?_
              rintro e w3 ⟨rfl, hb3⟩
              have hb23 : Below w2.heap.size w2 w3 := (below_alloc w2 _).drew.trans (hb3.mono (by simp)))
           | (refine (HS3.out w3 hb23).mono ?_
              rintro e w4 ⟨rfl, hb4⟩))))
    have hb5 := below_step (below_step (below_step hb2 hb23) (below_alloc w3 _)) hb4
    clear hb23 hb4 H2 HS3 hb3 hbne q1 q2 q3 q4 q5 q6
    by_cases hat : at_ < 0 ∨ (n : Int) ≤ at_
    · have hway : decide (at_ < 0) = true ∨ (decide (at_ < 0) = false ∧ decide ((n : Int) ≤ at_) = true) := by
        simp only [decide_eq_true_eq, decide_eq_false_iff_not]; omega
      rcases hway with hd3 | ⟨hd3, hd4⟩
      all_goals
        go_wp2_with (go_at_call 10; refine (live_from hb5).mono ?_; rintro e w6 ⟨rfl, hb6⟩)
        go_ret
        exact ⟨rfl, hb6⟩
    · have hat0 : 0 ≤ at_ := by omega
      obtain ⟨j, rfl⟩ := Int.eq_ofNat_of_zero_le hat0
      have hj : j < n := by omega
      have hjl : j < l.length := by rw [HL.out]; exact hj
      have hd3 : decide ((j : Int) < 0) = false := by simp
      have hd4 : decide (n ≤ j) = false := by simp; omega
      have H0 : Hid ((w4.alloc (.cells #[] 5)).ownsRow w4.heap.size 5 1 (.slice (some ⟨w4.heap.size, 0, none⟩) 0 0) 0 [] ∧ Cs (w4.alloc (.cells #[] 5)) A (l.map bv)) :=
        ⟨⟨rfl, .inr ⟨w4.heap.size, 0, #[], rfl, Nat.le_refl _, heap_alloc_new _ _, Nat.le_refl _, Nat.zero_le _, rfl, rfl⟩⟩, (hr.below (below_step hb5 (below_alloc _ _))).cs⟩
      have hone := bvs_one l
      have HLM := Lib.hid (show (l.map bv).length = n * 1 by rw [List.length_map, HL.out]; omega)
      have hmx : 0 + n ≤ maxLen := by simp only [maxLen]; omega
      have hbx : (0 + n) * 1 ≤ 140737488355328 := by omega
      have hbs : w4.heap.size ≤ (w4.alloc (.cells #[] 5)).heap.size := by simp
      clear hat hat0
      go_upto_region 9 with (first
        | (at_builtin; refine wpList_app bytesT rfl (.tmp 54) (.tmp 55) rfl w4.heap.size (.slice (some ⟨w4.heap.size, 0, none⟩) 0 0) 0 [] rfl H0.out.1 A n c (l.map bv) rfl HLM.out H0.out.2 hone hmx hbx hbs ?_; intro v' w5 hown5 hgr5 _; simp only [Nat.zero_add, List.nil_append] at hown5))
      have hb6 : Below w.heap.size w w5 := (below_step hb5 (below_alloc w4 _)).grown hgr5 (Nat.le_trans hb5.size hbs) (fun k hk => by injection hk with hk; rw [← hk]; exact hb5.size)
      have hgw : ∀ g, v'.ownBlock = some g → w.heap.size ≤ g := fun g hg => Nat.le_trans hb5.size (hown5.lt g hg).1
      obtain ⟨Q, cQ, hvQ, hrQ, _, _⟩ := own_rd hown5
      obtain ⟨g, cap, hvg, _, _⟩ := hown5.form (by omega)
      rw [hvg] at hvQ
      obtain ⟨eQ, _, eC⟩ := Value.slice.inj hvQ
      subst eQ eC hvg
      have hgw2 := hgw g rfl
      have hfz := hown5.frozenAt j
      have hcl : w5.cell? ⟨g, j, none⟩ = some (.int .u8 (l[j].toNat : Int)) := by
        rw [hown5.cellAt j (by omega), List.getElem?_map, List.getElem?_eq_getElem hjl]; rfl
      have HQ : Hid (Rd (w5.setCell ⟨g, j, none⟩ (.int .u8 (b : Int))) (some ⟨g, 0, none⟩) (l.set j (UInt8.ofNat b))) := by
        have h9 := hrQ.set_ j (UInt8.ofNat b) hjl
        rw [Nat.zero_add] at h9
        have e9 : bv (UInt8.ofNat b) = .int .u8 (b : Int) := by simp [bv]; omega
        rw [e9] at h9
        exact h9
      have HB7 := Lib.hid (hb6.setCell (p := ⟨g, j, none⟩) hgw2 (.int .u8 (b : Int)))
      have q7 : (0 : Int) ≤ (j : Int) := by omega
      have q8 : (j : Int) < (n : Int) := by omega
      go_upto_region 10 with (fail)
      refine wp_world (fun W => Below w.heap.size w W ∧ Rd W (some ⟨g, 0, none⟩) (l.set j (UInt8.ofNat b))) ⟨HB7.out, HQ.out⟩ ?_
      clear HB7 HQ hcl hfz hown5 hgr5 hb6 hrQ hgw H0 hb5
      rintro w8 ⟨hb8', hr8⟩
      obtain ⟨pb, po, rfl, _, hpc⟩ := hr.at_ hjl
      have HPC := Lib.hid (fun W (hb : Below w.heap.size w W) => (hb.cell (World.block_lt_of_cell? w _ hpc)).trans hpc)
      have hset : (l.set j (UInt8.ofNat b)).length = n := by rw [List.length_set, HL.out]
      have HS4 := Lib.hid (sum_any (some ⟨w8.heap.size, 0, none⟩) [l.set j (UInt8.ofNat b)] (l.set j (UInt8.ofNat b)) 1 1 (w8.alloc (.cells #[.slice (some ⟨g, 0, none⟩) n cap] 22)).drew (by simp) rfl (by omega) (by rw [hset]; omega) ((rdl_one hr8 hset).below (Below.refl _ _).drew))
      have hcase : (b = l[j].toNat ∧ crc (l.set j (UInt8.ofNat b)) = cr) ∨ (b ≠ l[j].toNat ∧ crc (l.set j (UInt8.ofNat b)) ≠ cr) := by
        by_cases hbe : b = l[j].toNat
        · refine .inl ⟨hbe, ?_⟩
          have e9 : UInt8.ofNat b = l[j] := by rw [hbe]; simp
          rw [e9, List.set_getElem_self, HCR.out]
        · refine .inr ⟨hbe, fun hc => hbe ?_⟩
          rw [HCR.out] at hc
          have h9 := crc_set l j (UInt8.ofNat b) hjl hc
          rw [← h9]
          simp
          omega
      generalize crc (l.set j (UInt8.ofNat b)) = cr2 at *
      have p8 := HPC.out w8.drew hb8'.drew
      clear hpc
      generalize l[j].toNat = y at *
      have hcase2 : (((cr2 : Int) == (cr : Int)) = true ∧ ((b : Int) == (y : Int)) = true) ∨ (((cr2 : Int) == (cr : Int)) = false ∧ ((b : Int) == (y : Int)) = false) := by
        rcases hcase with ⟨e1, e2⟩ | ⟨e1, e2⟩
        · exact .inl ⟨by rw [e2]; simp, by rw [e1]; simp⟩
        · exact .inr ⟨by rw [beq_eq_false_iff_ne]; omega, by rw [beq_eq_false_iff_ne]; omega⟩
      clear hcase hset
      rcases hcase2 with ⟨t1, t2⟩ | ⟨t1, t2⟩
      all_goals
        go_region_held3 (fun W => W.cell? ⟨pb, po + j, none⟩ = some (.int .u8 (y : Int))) (first | exact p8 | exact HPC.out _ (hb8'.alloc hb8'.size _).drew | exact HPC.out _ hb9 | exact HPC.out _ hb10) ((first
          | (go_at_call 19
             refine HS4.out.mono ?_
             rintro e w9 ⟨rfl, hb9'⟩
             have hb9 : Below w.heap.size w w9 := below_step (hb8'.alloc hb8'.size _).drew hb9')
          | (go_at_call 10
             refine (live_from hb9).mono ?_
             rintro e w10 ⟨rfl, hb10⟩)))
        go_wp2
        go_ret
        exact ⟨rfl, hb10⟩

/-- SpoolParts at every input. -/
theorem parts_any (A : Option Addr) (n c : Nat) (cut at_ : Int) (b : Nat) (l : List UInt8) (w : World) (hl : l.length = n) (hnc : n ≤ c) (hcm : c ≤ 9223372036854775807) (hr : Rd w A l) (hb8 : b < 256) :
    Calls Try.prog 4 #[.slice A n c, .int .i64 cut, .int .i64 at_, .int .u8 b] w (Yes w) := by
  by_cases h : 20000 < n ∨ cut < 0 ∨ (n : Int) < cut
  · exact parts_out A n c cut at_ b w (by omega)
  · obtain ⟨k, rfl⟩ := Int.eq_ofNat_of_zero_le (show 0 ≤ cut by omega)
    exact parts_in A n c k at_ b l w hl hnc hcm hr (by omega) (by omega) hb8
end Go.Proofs.Ytdmehbejfigaiaa
