/- The walk of the reference's Lay of layer 8, kind 4. -/
import Derived.Test.YtommadcjemljcaaQLayN
import Derived.Test.YtommadcjemljcaaOrd
import Derived.IntWalk
namespace Go.Proofs.Ytommadcjemljcaa
open Go.RowKit
set_option linter.unusedVariables false

set_option maxRecDepth 100000 in
set_option maxHeartbeats 2000000 in
theorem qlay_k4 (m : Nat) (hm : m ≤ 576460752303423487) (l : List TV) (A : Option Addr) (len c : Nat) (v : Value) (bl : List UInt8) (w0 W : World) (hlen : l.length = len) (hlc : len ≤ 10000) (hL : TV.isL l = true) (hW : Below w0.heap.size w0 W) (hR : RdM w0 A c l) (ho : W.ownsRow w0.heap.size 5 1 v bl.length (bl.map bv)) (hsz : bl.length + 300 * (TV.partsL l + 1) ≤ 100000000) (hit : QLayItem w0 l) :
    Calls Try.prog 22 #[v, .agg #[.int .i64 4, .int .i64 (m : Int), .string ⟨#[]⟩, .slice A len c]] W (LayEnds w0 W v (bl ++ (4 :: (laidB m 0 ++ laidB len 0)) ++ layTs l)) := by
  have HLEN := Lib.hid hlen
  have HIT := Lib.hid hit
  have HL := Lib.hid hL
  have hbase := hW.size
  have hlen9 := layTs_len l hL
  obtain ⟨Av, cv, rfl, -⟩ := own_rd ho
  have HO := Lib.hid ho
  have HST := Lib.hid (LS.start ho hbase [.int .i64 4, .int .i64 (m : Int), .string ⟨#[]⟩, .slice A len c])
  clear hlen hit hL ho
  obtain ⟨bn, hbn⟩ : ∃ bn, bl.length = bn := ⟨_, rfl⟩
  rw [hbn] at hsz HO HST ⊢
  have HBN := Lib.hid hbn
  clear hbn
  go_enter Try.func22, Try.ntmps22
  go_upto_region 1 with (fail)
  refine wp_world (fun V => LS w0.heap.size W V (.slice Av bn cv) (.slice Av bn cv) bl [.int .i64 4, .int .i64 (m : Int), .string ⟨#[]⟩, .slice A len c]) HST.out ?_
  clear HST
  intro V1 h1
  have x0 : V1.cell? ⟨W.heap.size, 0, none⟩ = some (.int .i64 4) := h1.box.cell 0
  have HA := Lib.hid (h1.keep (below_alloc V1 (.cells #[.int .u8 4] 5)))
  have hb9 : w0.heap.size ≤ V1.heap.size + 1 := by have := h1.gr.gr.size; omega
  have h63 : bn + 1 ≤ maxLen := by unfold maxLen; omega
  have hby : (bn + 1) * 1 ≤ 140737488355328 := by omega
  have HO1 := HA.out.own
  rw [HBN.out] at HO1
  have HO2 := Lib.hid HO1
  clear HO1
  go_upto_region 2 with (at_builtin; refine wpList_app bytesT rfl (.tmp 6) (.tmp 10) rfl w0.heap.size (.slice Av bn cv) bn (bl.map bv) rfl HO2.out (some ⟨V1.heap.size, 0, none⟩) 1 1 (([4] : List UInt8).map bv) rfl rfl (cs_one_byte V1 4 4 rfl) (bvs_one _) h63 hby (by simpa using hb9) ?_; intro v2 V2 ho2 hg2 hw2)
  have h2 : LS w0.heap.size W V2 (.slice Av bn cv) v2 (bl ++ [4]) [.int .i64 4, .int .i64 (m : Int), .string ⟨#[]⟩, .slice A len c] := HA.out.app (by rw [← List.map_append] at ho2; rw [List.length_append, HBN.out]; exact ho2) hg2 hw2
  obtain ⟨B1, hB1⟩ : ∃ B1, bl ++ [4] = B1 := ⟨_, rfl⟩
  rw [hB1] at h2
  have hbl1 : B1.length ≤ bn + 1 := by rw [← hB1, List.length_append, HBN.out]; exact Nat.le_refl _
  have HB1 := Lib.hid hB1
  clear hB1
  obtain ⟨A2, c2, rfl, -⟩ := h2.form
  refine wp_world (fun V => LS w0.heap.size W V (.slice Av bn cv) (.slice A2 B1.length c2) B1 [.int .i64 4, .int .i64 (m : Int), .string ⟨#[]⟩, .slice A len c]) h2 ?_
  clear h2 ho2 hg2 hw2 HO2 HA x0 h1 hb9 h63 hby
  intro V3 h3
  have x0 : V3.cell? ⟨W.heap.size, 0, none⟩ = some (.int .i64 4) := h3.box.cell 0
  have x1 : V3.cell? ⟨W.heap.size, 1, none⟩ = some (.int .i64 (m : Int)) := h3.box.cell 1
  have x2 : V3.cell? ⟨W.heap.size, 2, none⟩ = some (.string ⟨#[]⟩) := h3.box.cell 2
  have x3 : V3.cell? ⟨W.heap.size, 3, none⟩ = some (.slice A len c) := h3.box.cell 3
  have qm : IntKind.u64.wrap (m : Int) = (m : Int) := by show (m : Int) % 18446744073709551616 = _; omega
  have ql : IntKind.u64.wrap (len : Int) = (len : Int) := by show (len : Int) % 18446744073709551616 = _; omega
  obtain ⟨Bm, hBm⟩ : ∃ Bm, B1 ++ laidB m 0 = Bm := ⟨_, rfl⟩
  obtain ⟨bm, hbm⟩ : ∃ bm, Bm.length = bm := ⟨_, rfl⟩
  have hbml : bm ≤ bn + 100 := by rw [← hbm, ← hBm, List.length_append, laidB_len]; have := wid_le m; omega
  have HC1 : Hid (∀ V, Below V3.heap.size V3 V → Calls Try.prog 21 #[.slice A2 B1.length c2, .int .u64 (m : Int)] V fun r w' => ∃ A4 c4, r = .returned (.slice A4 bm c4) ∧ LS w0.heap.size W w' (.slice Av bn cv) (.slice A4 bm c4) Bm [.int .i64 4, .int .i64 (m : Int), .string ⟨#[]⟩, .slice A len c]) := fun V hV => by
    have h9 := qls_num (h3.keep hV) m (by omega) (by omega)
    rw [hBm] at h9
    exact h9.mono fun r w' ⟨A4, c4, hr, h4⟩ => ⟨A4, c4, by rw [hr, hbm], by rw [← hbm]; exact h4⟩
  have HB4 := Lib.hid (show Bm ++ laidB len 0 = bl ++ (4 :: (laidB m 0 ++ laidB len 0)) by rw [← hBm, ← HB1.out, List.append_assoc, List.append_assoc]; rfl)
  obtain ⟨B4, hB4⟩ : ∃ B4, Bm ++ laidB len 0 = B4 := ⟨_, rfl⟩
  have HC2 : Hid (∀ V A4 c4, LS w0.heap.size W V (.slice Av bn cv) (.slice A4 bm c4) Bm [.int .i64 4, .int .i64 (m : Int), .string ⟨#[]⟩, .slice A len c] → Calls Try.prog 21 #[.slice A4 bm c4, .int .u64 (len : Int)] V (LayOut w0.heap.size W (.slice Av bn cv) B4 [.int .i64 4, .int .i64 (m : Int), .string ⟨#[]⟩, .slice A len c])) := fun V A4 c4 hV => by
    have h9 := qls_num hV len (by omega) (by omega)
    rw [hB4] at h9
    exact h9
  rw [hB4] at HB4
  obtain ⟨b1, hb1⟩ : ∃ b1, B1.length = b1 := ⟨_, rfl⟩
  rw [hb1] at HC1 hbl1 ⊢
  have HB1L := Lib.hid hb1
  have H3 := Lib.hid h3
  have HCE : Hid (∀ V, LS w0.heap.size W V (.slice Av bn cv) (.slice A2 B1.length c2) B1 [.int .i64 4, .int .i64 (m : Int), .string ⟨#[]⟩, .slice A len c] → V.cell? ⟨W.heap.size, 1, none⟩ = some (.int .i64 (m : Int)) ∧ V.cell? ⟨W.heap.size, 3, none⟩ = some (.slice A len c)) := fun V hV => ⟨hV.box.cell 1, hV.box.cell 3⟩
  have HCF : Hid (∀ V A4 c4, LS w0.heap.size W V (.slice Av bn cv) (.slice A4 bm c4) Bm [.int .i64 4, .int .i64 (m : Int), .string ⟨#[]⟩, .slice A len c] → V.cell? ⟨W.heap.size, 1, none⟩ = some (.int .i64 (m : Int)) ∧ V.cell? ⟨W.heap.size, 3, none⟩ = some (.slice A len c)) := fun V A4 c4 hV => ⟨hV.box.cell 1, hV.box.cell 3⟩
  clear hb1 hB4 hBm hbm h3
  go_upto_region 11 with (fail)
  refine wp_region_W 9 (fun V => V.cell? ⟨W.heap.size, 1, none⟩ = some (.int .i64 (m : Int)) ∧ V.cell? ⟨W.heap.size, 3, none⟩ = some (.slice A len c)) (by kernel_rfl) ?_ (fun hS0 => ?_)
  · exact HCE.out _ (H3.out.keep (Below.refl _ _).drew)
  clear x0 x1 x2 x3
  (refine wpAnyW_take (i := 0) (v := ?_) rfl (by kernel_rfl) (by kernel_rfl) (by kernel_rfl) (by kernel_rfl) (fun _ _ _ h => h) (Or.inl ⟨by kernel_rfl, ?_⟩) (by assumption) ?_; rotate_left; focus (intro V9 hS9; go_simp; (try (with_reducible rfl)); done))
  try simp only [Act.put, List.getElem_toArray, List.getElem_cons_zero, List.setIfInBounds_toArray, List.set_cons_succ, List.set_cons_zero]
  (refine wpAnyW_take (i := 1) (v := ?_) rfl (by kernel_rfl) (by kernel_rfl) (by kernel_rfl) (by kernel_rfl) (fun _ _ _ h => h) (Or.inl ⟨by kernel_rfl, ?_⟩) (by assumption) ?_; rotate_left; focus (intro V9 hS9; go_simp; (try (with_reducible rfl)); done))
  try simp only [Act.put, List.getElem_toArray, List.getElem_cons_succ, List.getElem_cons_zero, List.setIfInBounds_toArray, List.set_cons_succ, List.set_cons_zero]
  (refine wpAnyW_take (i := 2) (v := ?_) rfl (by kernel_rfl) (by kernel_rfl) (by kernel_rfl) (by kernel_rfl) (fun _ _ _ h => h) (Or.inl ⟨by kernel_rfl, ?_⟩) (by assumption) ?_; rotate_left; focus (intro V9 hS9; obtain ⟨g1, g3⟩ := hS9; go_simp; (try (with_reducible rfl)); done))
  try simp only [Act.put, List.getElem_toArray, List.getElem_cons_succ, List.getElem_cons_zero, List.setIfInBounds_toArray, List.set_cons_succ, List.set_cons_zero]
  (refine wpAnyW_take (i := 3) (v := ?_) rfl (by kernel_rfl) (by kernel_rfl) (by kernel_rfl) (by kernel_rfl) (fun _ _ _ h => h) (Or.inl ⟨by kernel_rfl, ?_⟩) (by assumption) ?_; rotate_left; focus (intro V9 hS9; go_simp; (try (with_reducible rfl)); done))
  try simp only [Act.put, List.getElem_toArray, List.getElem_cons_succ, List.getElem_cons_zero, List.setIfInBounds_toArray, List.set_cons_succ, List.set_cons_zero]
  (refine wpAnyW_take (i := 5) (v := ?_) rfl (by kernel_rfl) (by kernel_rfl) (by kernel_rfl) (by kernel_rfl) (fun _ _ _ h => h) (Or.inl ⟨by kernel_rfl, ?_⟩) (by assumption) ?_; rotate_left; focus (intro V9 hS9; go_simp; (try (with_reducible rfl)); done))
  try simp only [Act.put, List.getElem_toArray, List.getElem_cons_succ, List.getElem_cons_zero, List.setIfInBounds_toArray, List.set_cons_succ, List.set_cons_zero]
  (refine wpAnyW_take (i := 6) (v := ?_) rfl (by kernel_rfl) (by kernel_rfl) (by kernel_rfl) (by kernel_rfl) (fun _ _ _ h => h) (Or.inl ⟨by kernel_rfl, ?_⟩) (by assumption) ?_; rotate_left; focus (intro V9 hS9; obtain ⟨g1, g3⟩ := hS9; go_simp; (try (with_reducible rfl)); done))
  try simp only [Act.put, List.getElem_toArray, List.getElem_cons_succ, List.getElem_cons_zero, List.setIfInBounds_toArray, List.set_cons_succ, List.set_cons_zero]
  (refine wpAnyW_take (i := 7) (v := ?_) rfl (by kernel_rfl) (by kernel_rfl) (by kernel_rfl) (by kernel_rfl) (fun _ _ _ h => h) (Or.inl ⟨by kernel_rfl, ?_⟩) (by assumption) ?_; rotate_left; focus (intro V9 hS9; go_simp; (try (with_reducible rfl)); done))
  try simp only [Act.put, List.getElem_toArray, List.getElem_cons_succ, List.getElem_cons_zero, List.setIfInBounds_toArray, List.set_cons_succ, List.set_cons_zero]
  (refine wpAnyW_take (i := 8) (v := ?_) rfl (by kernel_rfl) (by kernel_rfl) (by kernel_rfl) (by kernel_rfl) (fun _ _ _ h => h) (Or.inl ⟨by kernel_rfl, ?_⟩) (by assumption) ?_; rotate_left; focus (intro V9 hS9; go_simp; (try (with_reducible rfl)); done))
  try simp only [Act.put, List.getElem_toArray, List.getElem_cons_succ, List.getElem_cons_zero, List.setIfInBounds_toArray, List.set_cons_succ, List.set_cons_zero]
  refine wpAnyW_ready (rs := [4]) (by kernel_rfl) (by simp) ?_
  refine AllReadyW.cons rfl (fun K hK => ?_) AllReadyW.nil
  go_simp
  refine (HC1.out _ (Below.refl _ _).drew).mono ?_
  rintro r V5 ⟨A5, c5, rfl, h5⟩
  refine hK.out _ _ (HCF.out _ _ _ h5) (fun _ => ?_)
  clear hK K
  try simp only [Act.put, List.getElem_toArray, List.getElem_cons_succ, List.getElem_cons_zero, List.setIfInBounds_toArray, List.set_cons_succ, List.set_cons_zero]
  refine wpAnyW_ready (rs := [9]) (by kernel_rfl) (by simp) ?_
  refine AllReadyW.consE rfl (by kernel_rfl) (fun K hK => ?_) AllReadyW.nil
  go_simp
  refine (HC2.out _ _ _ h5).mono ?_
  rintro r V4 ⟨A4, c4, rfl, h4⟩
  refine hK.out _ _ ?_
  clear hK K h5 HC1 HC2
  try simp only [Act.put, List.getElem_toArray, List.getElem_cons_succ, List.getElem_cons_zero, List.setIfInBounds_toArray, List.set_cons_succ, List.set_cons_zero]
  refine wpAnyW_ready (rs := [10]) (by kernel_rfl) (by simp) ?_
  refine AllReadyW.consE rfl (by kernel_rfl) (fun K hK => ?_) AllReadyW.nil
  go_simp
  refine hK.out _ _ ?_
  clear hK K
  refine wpAnyW_done (by kernel_rfl) ?_ _
  go_upto_region 14 with (fail)
  have hbl4 : B4.length ≤ bn + 300 := by rw [HB4.out, List.length_append, HBN.out]; have : (4 :: (laidB m 0 ++ laidB len 0) : List UInt8).length ≤ 300 := (by have := wid_le m; have := wid_le len; simp [laidB_len]; omega); omega
  obtain ⟨b4, hb4⟩ : ∃ b4, B4.length = b4 := ⟨_, rfl⟩
  have H4 := Lib.hid h4
  rw [hb4] at hbl4 ⊢
  clear hbl1 h4
  have HB4N := Lib.hid hb4
  clear hb4
  go_wp2
  go_loopw [0, 5] (fun u i wr => ∃ (k : Nat) (Ak : Option Addr) (ck : Nat), k ≤ len ∧ i = .int .i64 k ∧ u = .slice Ak (B4 ++ layTs (l.take k)).length ck ∧ LS w0.heap.size W wr (.slice Av bn cv) (.slice Ak (B4 ++ layTs (l.take k)).length ck) (B4 ++ layTs (l.take k)) [.int .i64 4, .int .i64 (m : Int), .string ⟨#[]⟩, .slice A len c]) (fun _ i _ => len - (intOf i).toNat)
  case atStart =>
    refine ⟨0, A4, c4, Nat.zero_le _, rfl, ?_, ?_⟩
    · simp [layTs, HB4N.out]
    · have h9 := H4.out
      rw [show B4 ++ layTs (l.take 0) = B4 by simp [layTs]]
      exact h9
  case round =>
    obtain ⟨k, Ak, ck, hk, rfl, rfl, hLk⟩ := hrel
    have hgk := hLk.gr
    have hok := hLk.own
    have x3 : wr.cell? ⟨W.heap.size, 3, none⟩ = some (.slice A len c) := hLk.box.cell 3
    have hbk : Below w0.heap.size w0 wr := hW.trans (hgk.below hbase HO.out)
    by_cases hlt : k < len
    · have hd1 : decide (k < len) = true := by simp; omega
      have hkl : k < l.length := by rw [HLEN.out]; exact hlt
      obtain ⟨b, o, A', c', rfl, e0', e1', e2', e3', hR'⟩ := hR.item hkl
      have e0 := (hbk.cell (World.block_lt_of_cell? w0 _ e0')).trans e0'
      have e1 := (hbk.cell (World.block_lt_of_cell? w0 _ e1')).trans e1'
      have e2 := (hbk.cell (World.block_lt_of_cell? w0 _ e2')).trans e2'
      have e3 := (hbk.cell (World.block_lt_of_cell? w0 _ e3')).trans e3'
      have htk := layTs_take l k hkl
      have hpt := partsL_take l k hkl
      have hpl := partsL_take_le l (k + 1)
      have hlt1 := layTs_len (l.take k) (by
        have := HL.out
        rw [← List.take_append_drop k l, isL_append, Bool.and_eq_true] at this
        exact this.1)
      have hlk : (B4 ++ layTs (l.take k)).length ≤ b4 + 300 * TV.partsL (l.take k) := by rw [List.length_append, HB4N.out]; omega
      have HTK := Lib.hid (show B4 ++ layTs (l.take (k + 1)) = B4 ++ layTs (l.take k) ++ layT l[k] by rw [htk, List.append_assoc])
      have HC := Lib.hid (HIT.out k hkl A' c' (.slice Ak (B4 ++ layTs (l.take k)).length ck) (B4 ++ layTs (l.take k)) wr hbk hR' hok (by omega))
      have HLK := Lib.hid hLk
      obtain ⟨Bk, hBk⟩ : ∃ Bk, B4 ++ layTs (l.take k) = Bk := ⟨_, rfl⟩
      rw [hBk] at HC HTK HLK
      obtain ⟨nk, hnk⟩ : ∃ nk, Bk.length = nk := ⟨_, rfl⟩
      rw [hBk, hnk]
      rw [hnk] at HC HLK
      have HNK := Lib.hid hnk
      have HGR : Hid (∀ V v', V.ownsRow w0.heap.size 5 1 v' (Bk ++ layT l[k]).length ((Bk ++ layT l[k]).map bv) → Grow wr V (.slice Ak nk ck) v' → LS w0.heap.size W V (.slice Av bn cv) v' (Bk ++ layT l[k]) [.int .i64 4, .int .i64 (m : Int), .string ⟨#[]⟩, .slice (some ⟨b, o, none⟩) len c]) := fun V v' ho hg => HLK.out.grow ho hg
      obtain ⟨Bq, hBq⟩ : ∃ Bq, Bk ++ layT l[k] = Bq := ⟨_, rfl⟩
      rw [hBq] at HC HTK HGR
      have hq1 : (0 : Int) ≤ (k : Int) := by omega
      have hq2 : (k : Int) < (len : Int) := by omega
      clear e0' e1' e2' e3' htk hpt hpl hlt1 hlk hBk hnk hBq hgk hok hR' hLk HLK
      generalize l[k] = ti at *
      clear hkl
      go_wp2_with (go_at_call 22; refine HC.out.mono ?_; rintro r V5 ⟨A5, c5, rfl, ho5, hg5⟩)
      go_roundw
      case rel =>
        refine ⟨k + 1, A5, c5, by omega, by go_num, by rw [HTK.out], ?_⟩
        rw [HTK.out]
        exact HGR.out _ _ ho5 hg5
      case measure => simp [intOf]; omega
    · obtain rfl : len = k := by omega
      have hd1 : decide (len < len) = false := by simp
      have HE := Lib.hid (show B4 ++ layTs (l.take len) = bl ++ (4 :: (laidB m 0 ++ laidB len 0)) ++ layTs l by rw [List.take_of_length_le (by rw [HLEN.out]; exact Nat.le_refl _), HB4.out])
      rw [HE.out] at hok hgk ⊢
      obtain ⟨BZ, hBZ⟩ : ∃ BZ, bl ++ (4 :: (laidB m 0 ++ laidB len 0)) ++ layTs l = BZ := ⟨_, rfl⟩
      rw [hBZ] at hok hgk ⊢
      have HOK := Lib.hid (And.intro hok hgk)
      have HBZ := Lib.hid hBZ
      clear hok hgk hBZ HE hLk
      go_wp2
      go_ret
      exact ⟨Ak, ck, by rw [HBZ.out]; rfl, by rw [HBZ.out]; exact HOK.out.1, by rw [HBZ.out]; exact HOK.out.2⟩

end Go.Proofs.Ytommadcjemljcaa
