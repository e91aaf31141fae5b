/- The walk of write of the document's journal. The walks of Flush and Append of the document's journal. -/
import Derived.Test.YtcnhfbckaacalaaJRJ
import Derived.Test.YtcnhfbckaacalaaOrd
namespace Go.Proofs.Ytcnhfbckaacalaa
section
open Go.RowKit
set_option linter.unusedVariables false

theorem extract_list (l : List UInt8) (lo to : Nat) : (⟨l.toArray⟩ : ByteArray).extract lo to = ⟨((l.drop lo).take (to - lo)).toArray⟩ := by
  apply ByteArray.ext
  apply Array.toList_inj.1
  simp only [ByteArray.data_extract, Array.toList_extract, List.extract_eq_take_drop]
section
variable {w w' : World} {pk pr : Nat} {q : RPl} {J : JV} {R : RS} {D : DS}
set_option maxRecDepth 100000 in
set_option maxHeartbeats 4000000 in
theorem rwr_any (h : RZ pk pr q J R w) (hS : Sim D R) (hj : JOk J D) (hs : J.safe < J.stream.length) (hlg : D.log.length + 1 ≤ 1000000) :
    Calls Try.prog 57 #[.pointer (some ⟨pk, 0, none⟩), .int .i64 ((J.blk D : Nat) : Int)] w fun r w' => r = .returned (.int .i64 ((J.wr D).1 : Int)) ∧ ∃ R' q', RZA w pk pr q (J.wr D).2.1 (J.wr D).2.2 w' R' q' := by
  have hok := hS.dok
  have h1 := hok.s1
  have h2 := hok.s2
  have hl := hj.len hok
  obtain ⟨rm, hrm⟩ : ∃ rm, D.size - 15 = rm := ⟨_, rfl⟩
  obtain ⟨i, hi⟩ : ∃ i, J.blk D = i := ⟨_, rfl⟩
  obtain ⟨to, hto⟩ : ∃ to, J.to_ D = to := ⟨_, rfl⟩
  obtain ⟨lo, hlo⟩ : ∃ lo, i * rm = lo := ⟨_, rfl⟩
  obtain ⟨hi2, hhi2⟩ : ∃ x, (i + 1) * rm = x := ⟨_, rfl⟩
  have hi' : i = J.safe / rm := by rw [← hi, JV.blk, hrm]
  have hlh : hi2 = lo + rm := by rw [← hhi2, ← hlo, Nat.succ_mul]
  have hlos : lo ≤ J.safe ∧ J.safe < hi2 := by
    have e1 := Nat.div_mul_le_self J.safe rm
    have e2 := Nat.lt_div_mul_add (a := J.safe) (b := rm) (by omega)
    rw [← hi', hlo] at e1 e2
    omega
  have hil : i < J.len := by
    have := hj.room
    rw [hrm] at this
    have h9 : i * rm < J.len * rm := by omega
    exact Nat.lt_of_mul_lt_mul_right h9
  have hto' : to = min J.stream.length hi2 := by rw [← hto, JV.to_, hi, hrm, hhi2]
  have hlt : lo < to ∧ to ≤ J.stream.length ∧ to ≤ lo + rm := by omega
  have hload : J.load D = (J.stream.drop lo).take (to - lo) := by rw [JV.load, hi, hto, hrm, hlo]
  have hll : (J.load D).length = to - lo := by rw [hload]; simp; omega
  have hl2 := hj.l2
  have hnum : jnum J.epoch J.life i < 18446744073709551616 := by
    have := hj.ep; have := hj.lf2
    unfold jnum; omega
  have himg : J.image D = sealed D.size 74 (jnum J.epoch J.life i) (J.load D) := by rw [JV.image, hi]
  have hil3 : (J.image D).length = D.size := by rw [himg]; exact sealed_len h1 (by rw [hll]; omega)
  have hpu : putP (D.size : Int) 74 (jnum J.epoch J.life i) (J.load D) = (0, J.image D) := by rw [himg]; exact putP_ok h1 h2 (by omega) (by rw [hll]; omega)
  have hex : (⟨J.stream.toArray⟩ : ByteArray).extract lo to = ⟨(J.load D).toArray⟩ := by rw [hload]; exact extract_list _ _ _
  obtain ⟨ld, hld⟩ : ∃ ld, J.load D = ld := ⟨_, rfl⟩
  rw [hld] at hex hpu hll
  obtain ⟨im, him⟩ : ∃ im, J.image D = im := ⟨_, rfl⟩
  rw [him] at hpu hil3
  have HNUM : Hid (∀ V, Calls Try.prog 27 #[.int .i64 (J.epoch : Int), .int .i64 (J.life : Int), .int .i64 (i : Int)] V fun r w' => r = .returned (.int .u64 (jnum J.epoch J.life i : Int)) ∧ V = w') := fun V => rnumber_any _ _ _ V hj.ep hj.lf2 (by omega)
  have HRM : Hid (∀ V, Calls Try.prog 14 #[.int .i64 (R.size : Int)] V fun e w' => e = .returned (.int .i64 (rm : Int)) ∧ V = w') := fun V => by rw [← hrm]; exact rroomD hS V
  have HPUT : Hid (∀ V A n c, ld.length = n → Rd V A ld → Calls Try.prog 75 #[.int .i64 (R.size : Int), .agg #[.int .u8 74, .int .u64 (jnum J.epoch J.life i : Int), .slice A n c]] V fun r w' => r = .returned (.tuple #[.string ⟨im.toArray⟩, .int .i64 0]) ∧ Below V.heap.size V w') := fun V A n c hn hr => by
    have h9 := rput_any (R.size : Int) 74 (jnum J.epoch J.life i) A n c ld V (by omega) hnum hn hr
    rw [hS.size, hpu] at h9
    rw [hS.size]
    exact h9
  obtain ⟨ew, hew⟩ : ∃ ew, (D.write ((J.from_ + i : Nat) : Int) im).1 = ew := ⟨_, rfl⟩
  obtain ⟨D2, hD2⟩ : ∃ D2, (D.write ((J.from_ + i : Nat) : Int) im).2 = D2 := ⟨_, rfl⟩
  have HWD := Lib.hid (show J.wr D = if ew = 0 then (0, { J with safe := to }, D2) else (ew, { J with broken := true }, D2) by
    unfold JV.wr
    simp only
    rw [hi, him, hew, hD2, hto])
  have HW : Hid (∀ V, RZ pk pr q J R V → Calls Try.prog 34 #[.pointer (some ⟨pr, 0, none⟩), .int .i64 ((J.from_ : Int) + (i : Int)), .string ⟨im.toArray⟩] V fun r w' => r = .returned (.int .i64 (ew : Int)) ∧ ∃ R' q', RZA V pk pr q J D2 w' R' q') := fun V hV => by
    have h9 := rwrite_any (n := ((J.from_ + i : Nat) : Int)) (p := im) hV.ref hS.rok (by omega)
    obtain ⟨s1, s2, s3⟩ := sim_write hS ((J.from_ + i : Nat) : Int) im hlg
    rw [show ((J.from_ : Int) + (i : Int)) = ((J.from_ + i : Nat) : Int) by push_cast; rfl]
    refine h9.mono fun r w' ⟨he, q', ha⟩ => ⟨?_, _, q', RZA.disk hV (hD2 ▸ s2) ha⟩
    rw [he, s1, hew]
  have hfr : J.from_ + J.len ≤ D.nb := hj.area
  have hnb := hok.n2
  have q4 : IntKind.i64.wrap ((i : Int) + 1) = (i : Int) + 1 := IntWalk.i64_in _ (by omega)
  have q5 : ((i : Int) + 1) * (rm : Int) = (hi2 : Int) := by rw [← hhi2]; push_cast; rfl
  have q6 : (i : Int) * (rm : Int) = (lo : Int) := by rw [← hlo]; push_cast; rfl
  have q7 : IntKind.i64.wrap (hi2 : Int) = (hi2 : Int) := IntWalk.i64_in _ (by omega)
  have q8 : IntKind.i64.wrap (lo : Int) = (lo : Int) := IntWalk.i64_in _ (by omega)
  have q9 : min (J.stream.length : Int) (hi2 : Int) = (to : Int) := by rw [hto']; omega
  have q10 : IntKind.i64.wrap ((J.from_ : Int) + (i : Int)) = (J.from_ : Int) + (i : Int) := IntWalk.i64_in _ (by omega)
  have c0 : w.cell? ⟨pk, 0, none⟩ = some (.pointer (some ⟨pr, 0, none⟩)) := h.obj.cell 0
  have c1 : w.cell? ⟨pk, 1, none⟩ = some (.int .i64 (J.from_ : Int)) := h.obj.cell 1
  have c3 : w.cell? ⟨pk, 3, none⟩ = some (.int .i64 (J.epoch : Int)) := h.obj.cell 3
  have c4 : w.cell? ⟨pk, 4, none⟩ = some (.int .i64 (J.life : Int)) := h.obj.cell 4
  have c5 : w.cell? ⟨pk, 5, none⟩ = some (.string ⟨J.stream.toArray⟩) := h.obj.cell 5
  have r1 : w.cell? ⟨pr, 1, none⟩ = some (.int .i64 (R.size : Int)) := h.ref.obj.cell 1
  rw [hi]
  have HZ := Lib.hid h
  have hnn : (⟨J.stream.toArray⟩ : ByteArray).size = J.stream.length := by show J.stream.toArray.size = _; simp
  have hlts := hlt
  clear hlo hhi2 hi hto hto' hi' hload himg hpu hlos hlh hnum h hS hrm hld him hew hD2 hil3
  go_enter Try.func57, Try.ntmps57
  go_upto_region 3 with (go_at_call 14; refine (HRM.out _).mono ?_; rintro e w' ⟨rfl, rfl⟩)
  obtain ⟨fc, fw, hfw⟩ : ∃ (fc : World → Nat) (fw : World → World), ∀ W, (convert 9 23 (.string ⟨ld.toArray⟩)).run Try.prog W = .ok (.slice (some ⟨W.heap.size, 0, none⟩) ld.length (fc W)) (fw W) ∧ Rd (fw W) (some ⟨W.heap.size, 0, none⟩) ld ∧ ld.length ≤ fc W ∧ Below W.heap.size W (fw W) ∧ W.heap.size < (fw W).heap.size := ⟨_, _, fun W => Classical.choose_spec (Classical.choose_spec (jbytes_of W ld (by omega)))⟩
  obtain ⟨ln, hln⟩ : ∃ ln, ld.length = ln := ⟨_, rfl⟩
  have hrun : ∀ W, (convert 9 23 (.string ⟨ld.toArray⟩)).run Try.prog W = .ok (.slice (some ⟨W.heap.size, 0, none⟩) ln (fc W)) (fw W) := fun W => by rw [← hln]; exact (hfw W).1
  have HFW := Lib.hid (fun W => (hfw W).2)
  have HLN := Lib.hid hln
  have hcl : ∀ V, RZ pk pr q J R V → V.cell? ⟨pk, 0, none⟩ = some (.pointer (some ⟨pr, 0, none⟩)) ∧ V.cell? ⟨pk, 3, none⟩ = some (.int .i64 (J.epoch : Int)) ∧ V.cell? ⟨pk, 4, none⟩ = some (.int .i64 (J.life : Int)) ∧ V.cell? ⟨pk, 5, none⟩ = some (.string ⟨J.stream.toArray⟩) ∧ V.cell? ⟨pr, 1, none⟩ = some (.int .i64 (R.size : Int)) := fun V hV => ⟨hV.obj.cell 0, hV.obj.cell 3, hV.obj.cell 4, hV.obj.cell 5, hV.ref.obj.cell 1⟩
  have HK : Hid (∀ V, (RZ pk pr q J R V ∧ Below w.heap.size w V) → (V.cell? ⟨pk, 0, none⟩ = some (.pointer (some ⟨pr, 0, none⟩)) ∧ V.cell? ⟨pk, 3, none⟩ = some (.int .i64 (J.epoch : Int)) ∧ V.cell? ⟨pk, 4, none⟩ = some (.int .i64 (J.life : Int)) ∧ V.cell? ⟨pk, 5, none⟩ = some (.string ⟨J.stream.toArray⟩) ∧ V.cell? ⟨pr, 1, none⟩ = some (.int .i64 (R.size : Int))) ∧ RZ pk pr q J R V ∧ Below w.heap.size w V) := fun V hV => ⟨hcl V hV.1, hV⟩
  have H00 : Hid (RZ pk pr q J R w.drew ∧ Below w.heap.size w w.drew) := ⟨HZ.out.keep (Below.refl _ _).drew, (Below.refl _ _).drew⟩
  have HKF : Hid (∀ V, (RZ pk pr q J R V ∧ Below w.heap.size w V) → (RZ pk pr q J R (fw V) ∧ Below w.heap.size w (fw V))) := fun V hV => ⟨hV.1.keep (hfw V).2.2.2.1, below_step hV.2 (hfw V).2.2.2.1⟩
  have s1 : (0 : Int) ≤ (lo : Int) := by omega
  have s2 : (lo : Int) ≤ (to : Int) := by omega
  have s3 : (to : Int) ≤ (J.stream.length : Int) := by omega
  clear hcl hfw hln hll
  refine wp_region_W 33 (fun V => V.cell? ⟨pk, 0, none⟩ = some (.pointer (some ⟨pr, 0, none⟩)) ∧ V.cell? ⟨pk, 3, none⟩ = some (.int .i64 (J.epoch : Int)) ∧ V.cell? ⟨pk, 4, none⟩ = some (.int .i64 (J.life : Int)) ∧ V.cell? ⟨pk, 5, none⟩ = some (.string ⟨J.stream.toArray⟩) ∧ V.cell? ⟨pr, 1, none⟩ = some (.int .i64 (R.size : Int))) (by kernel_rfl) ?_ (fun hS0 => ?_)
  · exact (HK.out _ H00.out).1
  clear c0 c1 c3 c4 c5 r1
  (refine wpAnyW_take (i := 0) (v := ?_) rfl (by kernel_rfl) (by kernel_rfl) (by kernel_rfl) (by kernel_rfl) (fun _ _ _ h => h) (Or.inl ⟨by kernel_rfl, ?_⟩) (by assumption) ?_; rotate_left; focus (intro V9 hS9; go_simp; (try (with_reducible rfl)); done))
  try simp only [Act.put, List.getElem_toArray, List.getElem_cons_zero, List.setIfInBounds_toArray, List.set_cons_succ, List.set_cons_zero]
  (refine wpAnyW_take (i := 1) (v := ?_) rfl (by kernel_rfl) (by kernel_rfl) (by kernel_rfl) (by kernel_rfl) (fun _ _ _ h => h) (Or.inl ⟨by kernel_rfl, ?_⟩) (by assumption) ?_; rotate_left; focus (intro V9 hS9; go_simp; (try (with_reducible rfl)); done))
  try simp only [Act.put, List.getElem_toArray, List.getElem_cons_succ, List.getElem_cons_zero, List.setIfInBounds_toArray, List.set_cons_succ, List.set_cons_zero]
  (refine wpAnyW_take (i := 2) (v := ?_) rfl (by kernel_rfl) (by kernel_rfl) (by kernel_rfl) (by kernel_rfl) (fun _ _ _ h => h) (Or.inl ⟨by kernel_rfl, ?_⟩) (by assumption) ?_; rotate_left; focus (intro V9 hS9; go_simp; (try (with_reducible rfl)); done))
  try simp only [Act.put, List.getElem_toArray, List.getElem_cons_succ, List.getElem_cons_zero, List.setIfInBounds_toArray, List.set_cons_succ, List.set_cons_zero]
  (refine wpAnyW_take (i := 3) (v := ?_) rfl (by kernel_rfl) (by kernel_rfl) (by kernel_rfl) (by kernel_rfl) (fun _ _ _ h => h) (Or.inl ⟨by kernel_rfl, ?_⟩) (by assumption) ?_; rotate_left; focus (intro V9 hS9; obtain ⟨g0, g3, g4, g5, g1⟩ := hS9; go_simp; (try (with_reducible rfl)); done))
  try simp only [Act.put, List.getElem_toArray, List.getElem_cons_succ, List.getElem_cons_zero, List.setIfInBounds_toArray, List.set_cons_succ, List.set_cons_zero]
  (refine wpAnyW_take (i := 4) (v := ?_) rfl (by kernel_rfl) (by kernel_rfl) (by kernel_rfl) (by kernel_rfl) (fun _ _ _ h => h) (Or.inl ⟨by kernel_rfl, ?_⟩) (by assumption) ?_; rotate_left; focus (intro V9 hS9; go_simp; (try (with_reducible rfl)); done))
  try simp only [Act.put, List.getElem_toArray, List.getElem_cons_succ, List.getElem_cons_zero, List.setIfInBounds_toArray, List.set_cons_succ, List.set_cons_zero]
  (refine wpAnyW_take (i := 5) (v := ?_) rfl (by kernel_rfl) (by kernel_rfl) (by kernel_rfl) (by kernel_rfl) (fun _ _ _ h => h) (Or.inl ⟨by kernel_rfl, ?_⟩) (by assumption) ?_; rotate_left; focus (intro V9 hS9; go_simp; (try (with_reducible rfl)); done))
  try simp only [Act.put, List.getElem_toArray, List.getElem_cons_succ, List.getElem_cons_zero, List.setIfInBounds_toArray, List.set_cons_succ, List.set_cons_zero]
  (refine wpAnyW_take (i := 6) (v := ?_) rfl (by kernel_rfl) (by kernel_rfl) (by kernel_rfl) (by kernel_rfl) (fun _ _ _ h => h) (Or.inl ⟨by kernel_rfl, ?_⟩) (by assumption) ?_; rotate_left; focus (intro V9 hS9; obtain ⟨g0, g3, g4, g5, g1⟩ := hS9; go_simp; (try (with_reducible rfl)); done))
  try simp only [Act.put, List.getElem_toArray, List.getElem_cons_succ, List.getElem_cons_zero, List.setIfInBounds_toArray, List.set_cons_succ, List.set_cons_zero]
  (refine wpAnyW_take (i := 7) (v := ?_) rfl (by kernel_rfl) (by kernel_rfl) (by kernel_rfl) (by kernel_rfl) (fun _ _ _ h => h) (Or.inl ⟨by kernel_rfl, ?_⟩) (by assumption) ?_; rotate_left; focus (intro V9 hS9; go_simp; (try (with_reducible rfl)); done))
  try simp only [Act.put, List.getElem_toArray, List.getElem_cons_succ, List.getElem_cons_zero, List.setIfInBounds_toArray, List.set_cons_succ, List.set_cons_zero]
  (refine wpAnyW_take (i := 8) (v := ?_) rfl (by kernel_rfl) (by kernel_rfl) (by kernel_rfl) (by kernel_rfl) (fun _ _ _ h => h) (Or.inl ⟨by kernel_rfl, ?_⟩) (by assumption) ?_; rotate_left; focus (intro V9 hS9; go_simp; (try (with_reducible rfl)); done))
  try simp only [Act.put, List.getElem_toArray, List.getElem_cons_succ, List.getElem_cons_zero, List.setIfInBounds_toArray, List.set_cons_succ, List.set_cons_zero]
  (refine wpAnyW_take (i := 9) (v := ?_) rfl (by kernel_rfl) (by kernel_rfl) (by kernel_rfl) (by kernel_rfl) (fun _ _ _ h => h) (Or.inl ⟨by kernel_rfl, ?_⟩) (by assumption) ?_; rotate_left; focus (intro V9 hS9; go_simp; (try (with_reducible rfl)); done))
  try simp only [Act.put, List.getElem_toArray, List.getElem_cons_succ, List.getElem_cons_zero, List.setIfInBounds_toArray, List.set_cons_succ, List.set_cons_zero]
  (refine wpAnyW_take (i := 10) (v := ?_) rfl (by kernel_rfl) (by kernel_rfl) (by kernel_rfl) (by kernel_rfl) (fun _ _ _ h => h) (Or.inl ⟨by kernel_rfl, ?_⟩) (by assumption) ?_; rotate_left; focus (intro V9 hS9; obtain ⟨g0, g3, g4, g5, g1⟩ := hS9; go_simp; (try (with_reducible rfl)); done))
  try simp only [Act.put, List.getElem_toArray, List.getElem_cons_succ, List.getElem_cons_zero, List.setIfInBounds_toArray, List.set_cons_succ, List.set_cons_zero]
  (refine wpAnyW_take (i := 11) (v := ?_) rfl (by kernel_rfl) (by kernel_rfl) (by kernel_rfl) (by kernel_rfl) (fun _ _ _ h => h) (Or.inl ⟨by kernel_rfl, ?_⟩) (by assumption) ?_; rotate_left; focus (intro V9 hS9; go_simp; (try (with_reducible rfl)); done))
  try simp only [Act.put, List.getElem_toArray, List.getElem_cons_succ, List.getElem_cons_zero, List.setIfInBounds_toArray, List.set_cons_succ, List.set_cons_zero]
  (refine wpAnyW_take (i := 12) (v := ?_) rfl (by kernel_rfl) (by kernel_rfl) (by kernel_rfl) (by kernel_rfl) (fun _ _ _ h => h) (Or.inl ⟨by kernel_rfl, ?_⟩) (by assumption) ?_; rotate_left; focus (intro V9 hS9; go_simp; (try (with_reducible rfl)); done))
  try simp only [Act.put, List.getElem_toArray, List.getElem_cons_succ, List.getElem_cons_zero, List.setIfInBounds_toArray, List.set_cons_succ, List.set_cons_zero]
  (refine wpAnyW_take (i := 13) (v := ?_) rfl (by kernel_rfl) (by kernel_rfl) (by kernel_rfl) (by kernel_rfl) (fun _ _ _ h => h) (Or.inl ⟨by kernel_rfl, ?_⟩) (by assumption) ?_; rotate_left; focus (intro V9 hS9; go_simp; (try (with_reducible rfl)); done))
  try simp only [Act.put, List.getElem_toArray, List.getElem_cons_succ, List.getElem_cons_zero, List.setIfInBounds_toArray, List.set_cons_succ, List.set_cons_zero]
  (refine wpAnyW_take (i := 14) (v := ?_) rfl (by kernel_rfl) (by kernel_rfl) (by kernel_rfl) (by kernel_rfl) (fun _ _ _ h => h) (Or.inl ⟨by kernel_rfl, ?_⟩) (by assumption) ?_; rotate_left; focus (intro V9 hS9; obtain ⟨g0, g3, g4, g5, g1⟩ := hS9; go_simp; (try (with_reducible rfl)); done))
  try simp only [Act.put, List.getElem_toArray, List.getElem_cons_succ, List.getElem_cons_zero, List.setIfInBounds_toArray, List.set_cons_succ, List.set_cons_zero]
  (refine wpAnyW_take (i := 15) (v := ?_) rfl (by kernel_rfl) (by kernel_rfl) (by kernel_rfl) (by kernel_rfl) (fun _ _ _ h => h) (Or.inl ⟨by kernel_rfl, ?_⟩) (by assumption) ?_; rotate_left; focus (intro V9 hS9; go_simp; (try (with_reducible rfl)); done))
  try simp only [Act.put, List.getElem_toArray, List.getElem_cons_succ, List.getElem_cons_zero, List.setIfInBounds_toArray, List.set_cons_succ, List.set_cons_zero]
  (refine wpAnyW_take (i := 17) (v := ?_) rfl (by kernel_rfl) (by kernel_rfl) (by kernel_rfl) (by kernel_rfl) (fun _ _ _ h => h) (Or.inl ⟨by kernel_rfl, ?_⟩) (by assumption) ?_; rotate_left; focus (intro V9 hS9; go_simp; (try (with_reducible rfl)); done))
  try simp only [Act.put, List.getElem_toArray, List.getElem_cons_succ, List.getElem_cons_zero, List.setIfInBounds_toArray, List.set_cons_succ, List.set_cons_zero]
  (refine wpAnyW_take (i := 18) (v := ?_) rfl (by kernel_rfl) (by kernel_rfl) (by kernel_rfl) (by kernel_rfl) (fun _ _ _ h => h) (Or.inl ⟨by kernel_rfl, ?_⟩) (by assumption) ?_; rotate_left; focus (intro V9 hS9; go_simp; (try (with_reducible rfl)); done))
  try simp only [Act.put, List.getElem_toArray, List.getElem_cons_succ, List.getElem_cons_zero, List.setIfInBounds_toArray, List.set_cons_succ, List.set_cons_zero]
  (refine wpAnyW_take (i := 19) (v := ?_) rfl (by kernel_rfl) (by kernel_rfl) (by kernel_rfl) (by kernel_rfl) (fun _ _ _ h => h) (Or.inl ⟨by kernel_rfl, ?_⟩) (by assumption) ?_; rotate_left; focus (intro V9 hS9; go_simp; (try (with_reducible rfl)); done))
  try simp only [Act.put, List.getElem_toArray, List.getElem_cons_succ, List.getElem_cons_zero, List.setIfInBounds_toArray, List.set_cons_succ, List.set_cons_zero]
  (refine wpAnyW_take (i := 20) (v := ?_) rfl (by kernel_rfl) (by kernel_rfl) (by kernel_rfl) (by kernel_rfl) (fun _ _ _ h => h) (Or.inl ⟨by kernel_rfl, ?_⟩) (by assumption) ?_; rotate_left; focus (intro V9 hS9; obtain ⟨g0, g3, g4, g5, g1⟩ := hS9; go_simp; (try (with_reducible rfl)); done))
  try simp only [Act.put, List.getElem_toArray, List.getElem_cons_succ, List.getElem_cons_zero, List.setIfInBounds_toArray, List.set_cons_succ, List.set_cons_zero]
  (refine wpAnyW_take (i := 21) (v := ?_) rfl (by kernel_rfl) (by kernel_rfl) (by kernel_rfl) (by kernel_rfl) (fun _ _ _ h => h) (Or.inl ⟨by kernel_rfl, ?_⟩) (by assumption) ?_; rotate_left; focus (intro V9 hS9; go_simp; (try (with_reducible rfl)); done))
  try simp only [Act.put, List.getElem_toArray, List.getElem_cons_succ, List.getElem_cons_zero, List.setIfInBounds_toArray, List.set_cons_succ, List.set_cons_zero]
  (refine wpAnyW_take (i := 22) (v := ?_) rfl (by kernel_rfl) (by kernel_rfl) (by kernel_rfl) (by kernel_rfl) (fun _ _ _ h => h) (Or.inl ⟨by kernel_rfl, ?_⟩) (by assumption) ?_; rotate_left; focus (intro V9 hS9; go_simp; (try (with_reducible rfl)); done))
  try simp only [Act.put, List.getElem_toArray, List.getElem_cons_succ, List.getElem_cons_zero, List.setIfInBounds_toArray, List.set_cons_succ, List.set_cons_zero]
  (refine wpAnyW_take (i := 23) (v := ?_) rfl (by kernel_rfl) (by kernel_rfl) (by kernel_rfl) (by kernel_rfl) (fun _ _ _ h => h) (Or.inl ⟨by kernel_rfl, ?_⟩) (by assumption) ?_; rotate_left; focus (intro V9 hS9; go_simp; (try (with_reducible rfl)); done))
  try simp only [Act.put, List.getElem_toArray, List.getElem_cons_succ, List.getElem_cons_zero, List.setIfInBounds_toArray, List.set_cons_succ, List.set_cons_zero]
  (refine wpAnyW_take (i := 24) (v := ?_) rfl (by kernel_rfl) (by kernel_rfl) (by kernel_rfl) (by kernel_rfl) (fun _ _ _ h => h) (Or.inl ⟨by kernel_rfl, ?_⟩) (by assumption) ?_; rotate_left; focus (intro V9 hS9; go_simp; (try (with_reducible rfl)); done))
  try simp only [Act.put, List.getElem_toArray, List.getElem_cons_succ, List.getElem_cons_zero, List.setIfInBounds_toArray, List.set_cons_succ, List.set_cons_zero]
  (refine wpAnyW_take (i := 25) (v := ?_) rfl (by kernel_rfl) (by kernel_rfl) (by kernel_rfl) (by kernel_rfl) (fun _ _ _ h => h) (Or.inl ⟨by kernel_rfl, ?_⟩) (by assumption) ?_; rotate_left; focus (intro V9 hS9; go_simp; (try (with_reducible rfl)); done))
  try simp only [Act.put, List.getElem_toArray, List.getElem_cons_succ, List.getElem_cons_zero, List.setIfInBounds_toArray, List.set_cons_succ, List.set_cons_zero]
  refine wpAnyW_ready (rs := [16, 26]) (by kernel_rfl) (by simp) ?_
  refine AllReadyW.cons rfl (fun K hK => ?_) (AllReadyW.cons rfl (fun K hK => ?_) AllReadyW.nil)
  all_goals
    first
      | go_simp
        refine (HNUM.out _).mono ?_
        rintro r V9 ⟨rfl, rfl⟩
        refine hK.out _ _ (HK.out _ H00.out).1 (fun _ => ?_)
        clear hK K
        try simp only [Act.put, List.getElem_toArray, List.getElem_cons_succ, List.getElem_cons_zero, List.setIfInBounds_toArray, List.set_cons_succ, List.set_cons_zero]
        refine wpAnyW_ready (rs := [26]) (by kernel_rfl) (by simp) ?_
        refine AllReadyW.cons rfl (fun K hK => ?_) AllReadyW.nil
        go_simp
        refine hK.out _ _ (HK.out _ (HKF.out _ H00.out)).1 (fun _ => ?_)
        clear hK K
        try simp only [Act.put, List.getElem_toArray, List.getElem_cons_succ, List.getElem_cons_zero, List.setIfInBounds_toArray, List.set_cons_succ, List.set_cons_zero]
      | go_simp
        refine hK.out _ _ (HK.out _ (HKF.out _ H00.out)).1 (fun _ => ?_)
        clear hK K
        try simp only [Act.put, List.getElem_toArray, List.getElem_cons_succ, List.getElem_cons_zero, List.setIfInBounds_toArray, List.set_cons_succ, List.set_cons_zero]
        refine wpAnyW_ready (rs := [16]) (by kernel_rfl) (by simp) ?_
        refine AllReadyW.cons rfl (fun K hK => ?_) AllReadyW.nil
        go_simp
        refine (HNUM.out _).mono ?_
        rintro r V9 ⟨rfl, rfl⟩
        refine hK.out _ _ (HK.out _ (HKF.out _ H00.out)).1 (fun _ => ?_)
        clear hK K
        try simp only [Act.put, List.getElem_toArray, List.getElem_cons_succ, List.getElem_cons_zero, List.setIfInBounds_toArray, List.set_cons_succ, List.set_cons_zero]
  all_goals
    have hSF := (HK.out _ (HKF.out _ H00.out)).1
    (refine wpAnyW_take (i := 27) (v := ?_) rfl (by kernel_rfl) (by kernel_rfl) (by kernel_rfl) (by kernel_rfl) (fun _ _ _ h => h) (Or.inl ⟨by kernel_rfl, ?_⟩) (by assumption) ?_; rotate_left; focus (intro V9 hS9; go_simp; (try (with_reducible rfl)); done))
    try simp only [Act.put, List.getElem_toArray, List.getElem_cons_succ, List.getElem_cons_zero, List.setIfInBounds_toArray, List.set_cons_succ, List.set_cons_zero]
    refine wpAnyW_ready (rs := [28]) (by kernel_rfl) (by simp) ?_
    refine AllReadyW.cons rfl (fun K hK => ?_) AllReadyW.nil
    go_simp
    refine (HPUT.out _ _ _ _ HLN.out (HFW.out w.drew).1).mono ?_
    rintro r V9 ⟨rfl, hb9⟩
    have hQ9 := HKF.out _ H00.out
    have hP9 := And.intro (RZ.keep hQ9.1 hb9) (below_step hQ9.2 hb9)
    have hS9 := (HK.out _ hP9).1
    refine hK.out _ _ hS9 (fun _ => ?_)
    clear hK K hSF hQ9 hb9
    try simp only [Act.put, List.getElem_toArray, List.getElem_cons_succ, List.getElem_cons_zero, List.setIfInBounds_toArray, List.set_cons_succ, List.set_cons_zero]
    (refine wpAnyW_take (i := 29) (v := ?_) rfl (by kernel_rfl) (by kernel_rfl) (by kernel_rfl) (by kernel_rfl) (fun _ _ _ h => h) (Or.inl ⟨by kernel_rfl, ?_⟩) (by assumption) ?_; rotate_left; focus (intro V9 hS9; go_simp; (try (with_reducible rfl)); done))
    try simp only [Act.put, List.getElem_toArray, List.getElem_cons_succ, List.getElem_cons_zero, List.setIfInBounds_toArray, List.set_cons_succ, List.set_cons_zero]
    (refine wpAnyW_take (i := 30) (v := ?_) rfl (by kernel_rfl) (by kernel_rfl) (by kernel_rfl) (by kernel_rfl) (fun _ _ _ h => h) (Or.inl ⟨by kernel_rfl, ?_⟩) (by assumption) ?_; rotate_left; focus (intro V9 hS9; go_simp; (try (with_reducible rfl)); done))
    try simp only [Act.put, List.getElem_toArray, List.getElem_cons_succ, List.getElem_cons_zero, List.setIfInBounds_toArray, List.set_cons_succ, List.set_cons_zero]
    (refine wpAnyW_take (i := 31) (v := ?_) rfl (by kernel_rfl) (by kernel_rfl) (by kernel_rfl) (by kernel_rfl) (fun _ _ _ h => h) (Or.inl ⟨by kernel_rfl, ?_⟩) (by assumption) ?_; rotate_left; focus (intro V9 hS9; go_simp; (try (with_reducible rfl)); done))
    try simp only [Act.put, List.getElem_toArray, List.getElem_cons_succ, List.getElem_cons_zero, List.setIfInBounds_toArray, List.set_cons_succ, List.set_cons_zero]
    refine wpAnyW_ready (rs := [32]) (by kernel_rfl) (by simp) ?_
    refine AllReadyW.cons rfl (fun K hK => ?_) AllReadyW.nil
    go_simp
    refine hK.out _ _ hS9 (fun _ => ?_)
    clear hK K
    try simp only [Act.put, List.getElem_toArray, List.getElem_cons_succ, List.getElem_cons_zero, List.setIfInBounds_toArray, List.set_cons_succ, List.set_cons_zero]
    refine wpAnyW_ready (rs := [33]) (by kernel_rfl) (by simp) ?_
    refine AllReadyW.consE rfl (by kernel_rfl) (fun K hK => ?_) AllReadyW.nil
    go_simp
    refine hK.out _ _ ?_
    clear hK K
    refine wpAnyW_done (by kernel_rfl) ?_ _
    go_upto_region 4 with (fail)
    refine wp_world (fun V => RZ pk pr q J R V ∧ Below w.heap.size w V) hP9 ?_
    clear hS9 hP9 H00 HPUT HNUM
    rintro V1 ⟨hZ1, hb1⟩
    have c0 : V1.cell? ⟨pk, 0, none⟩ = some (.pointer (some ⟨pr, 0, none⟩)) := hZ1.obj.cell 0
    have c1 : V1.cell? ⟨pk, 1, none⟩ = some (.int .i64 (J.from_ : Int)) := hZ1.obj.cell 1
    have HZ1 := Lib.hid (And.intro hZ1 hb1)
    clear hZ1 hb1
    have HC1 : Hid (V1.drew.cell? ⟨pk, 0, none⟩ = some (.pointer (some ⟨pr, 0, none⟩)) ∧ V1.drew.cell? ⟨pk, 1, none⟩ = some (.int .i64 (J.from_ : Int))) := ⟨c0, c1⟩
    have HCW : Hid (∀ V R' q', RZA V1.drew pk pr q J D2 V R' q' → V.cell? ⟨pk, 0, none⟩ = some (.pointer (some ⟨pr, 0, none⟩)) ∧ V.cell? ⟨pk, 1, none⟩ = some (.int .i64 (J.from_ : Int))) := fun V R' q' hV => ⟨hV.rz.obj.cell 0, hV.rz.obj.cell 1⟩
    go_region_held3 (fun V => V.cell? ⟨pk, 0, none⟩ = some (.pointer (some ⟨pr, 0, none⟩)) ∧ V.cell? ⟨pk, 1, none⟩ = some (.int .i64 (J.from_ : Int))) (first | exact HC1.out | exact HCW.out _ _ _ hA9 | assumption) ((first
      | (go_at_call 34; refine (HW.out _ (HZ1.out.1.keep (Below.refl _ _).drew)).mono ?_; rintro r V9 ⟨rfl, R9, q9, hA9⟩)))
    rename_i hHeld9
    clear hHeld9
    have HA9 : Hid (RZA w pk pr q J D2 V9 R9 q9) := by
      have hb := below_step HZ1.out.2 (Below.refl V1.heap.size V1).drew
      refine ⟨hA9.rz, hA9.sim, (Fr.of_below hb (RF pk pr q)).trans hA9.fr (fun i _ g => g), fun k hk => ?_⟩
      rcases hA9.grown k hk with h9 | h9
      · exact .inl h9
      · have := hb.size; exact .inr (by omega)
    clear hA9 HC1 HCW
    go_upto_region 5 with (fail)
    refine wp_world (fun V => RZA w pk pr q J D2 V R9 q9) HA9.out ?_
    clear HA9 HZ1 c0 c1 HW
    intro V2 hA2
    by_cases he : ew = 0
    · subst he
      have HF : Hid (J.wr D = (0, { J with safe := to }, D2)) := by
        have h9 := HWD.out
        rw [if_pos rfl] at h9
        exact h9
      clear HWD
      have cf := hA2.rz.obj.frozen 6
      have c6 : V2.cell? ⟨pk, 6, none⟩ = some (.int .i64 (J.safe : Int)) := hA2.rz.obj.cell 6
      have HE := Lib.hid (hA2.set_ (J'' := { J with safe := to }) 6 (.int .i64 (to : Int)) rfl)
      clear hA2
      go_wp2
      go_ret
      rw [HF.out]
      exact ⟨rfl, R9, q9, HE.out⟩
    · have d1 : ((ew : Int) != 0) = true := by rw [bne_iff_ne]; omega
      have HF : Hid (J.wr D = (ew, { J with broken := true }, D2)) := by
        have h9 := HWD.out
        rw [if_neg he] at h9
        exact h9
      clear HWD
      have cf := hA2.rz.obj.frozen 8
      have c8 : V2.cell? ⟨pk, 8, none⟩ = some (.bool J.broken) := hA2.rz.obj.cell 8
      have HE := Lib.hid (hA2.set_ (J'' := { J with broken := true }) 8 (.bool true) rfl)
      clear hA2
      go_wp2
      go_ret
      rw [HF.out]
      exact ⟨rfl, R9, q9, HE.out⟩
end
end
section
open Go.RowKit
set_option linter.unusedVariables false

def RJAct (w : World) (pk pr : Nat) (q : RPl) (x : Nat × JV × DS) (r : Ending) (w' : World) : Prop := r = .returned (.int .i64 (x.1 : Int)) ∧ ∃ R' q', RZA w pk pr q x.2.1 x.2.2 w' R' q'
section
variable {w w' : World} {pk pr : Nat} {q : RPl} {J : JV} {R : RS} {D : DS}
set_option maxRecDepth 100000 in
set_option maxHeartbeats 1000000 in
theorem rflush_any (h : RZ pk pr q J R w) (hS : Sim D R) (hj : JOk J D) (hlg : D.log.length + 1 ≤ 1000000) :
    Calls Try.prog 31 #[.pointer (some ⟨pk, 0, none⟩)] w (RJAct w pk pr q (J.flush D)) := by
  have hok := hS.dok
  have h1 := hok.s1
  have h2 := hok.s2
  have hl := hj.len hok
  have hsf := hj.safe
  have c0 : w.cell? ⟨pk, 0, none⟩ = some (.pointer (some ⟨pr, 0, none⟩)) := h.obj.cell 0
  have c5 : w.cell? ⟨pk, 5, none⟩ = some (.string ⟨J.stream.toArray⟩) := h.obj.cell 5
  have c6 : w.cell? ⟨pk, 6, none⟩ = some (.int .i64 (J.safe : Int)) := h.obj.cell 6
  have c8 : w.cell? ⟨pk, 8, none⟩ = some (.bool J.broken) := h.obj.cell 8
  have r1 : w.cell? ⟨pr, 1, none⟩ = some (.int .i64 (R.size : Int)) := h.ref.obj.cell 1
  by_cases hb : J.broken = true
  · have HF := Lib.hid (show J.flush D = (61, J, D) by unfold JV.flush; rw [if_pos hb])
    rw [hb] at c8
    have HZ := Lib.hid (RZA.quiet h hS (Below.refl _ _))
    clear h hS hb
    go_enter Try.func31, Try.ntmps31
    go_wp2
    go_ret
    unfold RJAct
    rw [HF.out]
    exact ⟨rfl, R, q, HZ.out⟩
  have hbf : J.broken = false := by simpa using hb
  rw [hbf] at c8
  by_cases he : J.safe = J.stream.length
  · have HF := Lib.hid (show J.flush D = (0, J, D) by unfold JV.flush; rw [if_neg hb, if_pos he])
    have HZ := Lib.hid (fun n => RZA.quiet h hS (below_drewN (Below.refl w.heap.size w) n))
    have hd : ((J.safe : Int) == (J.stream.length : Int)) = true := by simp [he]
    have hd2 : (J.safe == J.stream.length) = true := by simp [he]
    clear h hS hb he
    go_enter Try.func31, Try.ntmps31
    go_upto_region 3 with (fail)
    go_quiet (fail)
    go_wp2
    go_ret
    unfold RJAct
    rw [HF.out]
    exact ⟨rfl, R, q, HZ.out _⟩
  have HF := Lib.hid (show J.flush D = J.wr D by unfold JV.flush; rw [if_neg hb, if_neg he])
  have hd : ((J.safe : Int) == (J.stream.length : Int)) = false := by simp; omega
  have hd2 : (J.safe == J.stream.length) = false := by simp; omega
  obtain ⟨rm, hrm⟩ : ∃ rm, D.size - 15 = rm := ⟨_, rfl⟩
  have HRM : Hid (∀ V, Calls Try.prog 14 #[.int .i64 (R.size : Int)] V fun e w' => e = .returned (.int .i64 (rm : Int)) ∧ V = w') := fun V => by rw [← hrm]; exact rroomD hS V
  obtain ⟨i, hi⟩ : ∃ i, J.blk D = i := ⟨_, rfl⟩
  have q1 : (J.safe : Int) / (rm : Int) = (i : Int) := by rw [← hi]; unfold JV.blk; rw [hrm]; rfl
  have q2 : ((rm : Int) == 0) = false := by simp; omega
  have q4 : ¬ rm = 0 := by omega
  have q3 : IntKind.i64.wrap (i : Int) = (i : Int) := IntWalk.i64_in _ (by
    have h8 : i ≤ J.safe := by rw [← hi]; exact Nat.div_le_self _ _
    omega)
  have HW : Hid (∀ V, RZ pk pr q J R V → Calls Try.prog 57 #[.pointer (some ⟨pk, 0, none⟩), .int .i64 (i : Int)] V fun r w' => r = .returned (.int .i64 ((J.wr D).1 : Int)) ∧ ∃ R' q', RZA V pk pr q (J.wr D).2.1 (J.wr D).2.2 w' R' q') := fun V hV => by rw [← hi]; exact rwr_any hV hS hj (by omega) hlg
  obtain ⟨X, hX⟩ : ∃ X, J.wr D = X := ⟨_, rfl⟩
  rw [hX] at HF HW
  obtain ⟨xe, xj, xd⟩ := X
  have HZ := Lib.hid (fun n => And.intro (h.drewN n) (below_drewN (Below.refl w.heap.size w) n))
  clear h hS hb he hX hi hrm
  go_enter Try.func31, Try.ntmps31
  go_upto_region 3 with (fail)
  go_quiet (fail)
  go_upto_region 5 with (fail)
  refine wp_world (fun V => RZ pk pr q J R V ∧ Below w.heap.size w V) (HZ.out _) ?_
  clear c0 c5 c6 c8 r1 HZ
  rintro V0 ⟨hZ0, hb0⟩
  have HK : Hid (∀ V, RZ pk pr q J R V → V.cell? ⟨pk, 0, none⟩ = some (.pointer (some ⟨pr, 0, none⟩)) ∧ V.cell? ⟨pk, 6, none⟩ = some (.int .i64 (J.safe : Int)) ∧ V.cell? ⟨pr, 1, none⟩ = some (.int .i64 (R.size : Int))) := fun V hV => ⟨hV.obj.cell 0, hV.obj.cell 6, hV.ref.obj.cell 1⟩
  have HZ0 := Lib.hid (And.intro (hZ0.keep (Below.refl _ _).drew) (below_step hb0 (Below.refl V0.heap.size V0).drew))
  clear hZ0 hb0
  refine wp_region_W 14 (fun V => V.cell? ⟨pk, 0, none⟩ = some (.pointer (some ⟨pr, 0, none⟩)) ∧ V.cell? ⟨pk, 6, none⟩ = some (.int .i64 (J.safe : Int)) ∧ V.cell? ⟨pr, 1, none⟩ = some (.int .i64 (R.size : Int))) (by kernel_rfl) ?_ (fun hS0 => ?_)
  · exact HK.out _ HZ0.out.1
  (refine wpAnyW_take (i := 0) (v := ?_) rfl (by kernel_rfl) (by kernel_rfl) (by kernel_rfl) (by kernel_rfl) (fun _ _ _ h => h) (Or.inl ⟨by kernel_rfl, ?_⟩) (by assumption) ?_; rotate_left; focus (intro V9 hS9; go_simp; (try (with_reducible rfl)); done))
  try simp only [Act.put, List.getElem_toArray, List.getElem_cons_zero, List.setIfInBounds_toArray, List.set_cons_succ, List.set_cons_zero]
  (refine wpAnyW_take (i := 1) (v := ?_) rfl (by kernel_rfl) (by kernel_rfl) (by kernel_rfl) (by kernel_rfl) (fun _ _ _ h => h) (Or.inl ⟨by kernel_rfl, ?_⟩) (by assumption) ?_; rotate_left; focus (intro V9 hS9; go_simp; (try (with_reducible rfl)); done))
  try simp only [Act.put, List.getElem_toArray, List.getElem_cons_succ, List.getElem_cons_zero, List.setIfInBounds_toArray, List.set_cons_succ, List.set_cons_zero]
  (refine wpAnyW_take (i := 2) (v := ?_) rfl (by kernel_rfl) (by kernel_rfl) (by kernel_rfl) (by kernel_rfl) (fun _ _ _ h => h) (Or.inl ⟨by kernel_rfl, ?_⟩) (by assumption) ?_; rotate_left; focus (intro V9 hS9; go_simp; (try (with_reducible rfl)); done))
  try simp only [Act.put, List.getElem_toArray, List.getElem_cons_succ, List.getElem_cons_zero, List.setIfInBounds_toArray, List.set_cons_succ, List.set_cons_zero]
  (refine wpAnyW_take (i := 3) (v := ?_) rfl (by kernel_rfl) (by kernel_rfl) (by kernel_rfl) (by kernel_rfl) (fun _ _ _ h => h) (Or.inl ⟨by kernel_rfl, ?_⟩) (by assumption) ?_; rotate_left; focus (intro V9 hS9; go_simp; (try (with_reducible rfl)); done))
  try simp only [Act.put, List.getElem_toArray, List.getElem_cons_succ, List.getElem_cons_zero, List.setIfInBounds_toArray, List.set_cons_succ, List.set_cons_zero]
  (refine wpAnyW_take (i := 4) (v := ?_) rfl (by kernel_rfl) (by kernel_rfl) (by kernel_rfl) (by kernel_rfl) (fun _ _ _ h => h) (Or.inl ⟨by kernel_rfl, ?_⟩) (by assumption) ?_; rotate_left; focus (intro V9 hS9; obtain ⟨g0, g6, g1⟩ := hS9; go_simp; (try (with_reducible rfl)); done))
  try simp only [Act.put, List.getElem_toArray, List.getElem_cons_succ, List.getElem_cons_zero, List.setIfInBounds_toArray, List.set_cons_succ, List.set_cons_zero]
  (refine wpAnyW_take (i := 5) (v := ?_) rfl (by kernel_rfl) (by kernel_rfl) (by kernel_rfl) (by kernel_rfl) (fun _ _ _ h => h) (Or.inl ⟨by kernel_rfl, ?_⟩) (by assumption) ?_; rotate_left; focus (intro V9 hS9; go_simp; (try (with_reducible rfl)); done))
  try simp only [Act.put, List.getElem_toArray, List.getElem_cons_succ, List.getElem_cons_zero, List.setIfInBounds_toArray, List.set_cons_succ, List.set_cons_zero]
  (refine wpAnyW_take (i := 6) (v := ?_) rfl (by kernel_rfl) (by kernel_rfl) (by kernel_rfl) (by kernel_rfl) (fun _ _ _ h => h) (Or.inl ⟨by kernel_rfl, ?_⟩) (by assumption) ?_; rotate_left; focus (intro V9 hS9; go_simp; (try (with_reducible rfl)); done))
  try simp only [Act.put, List.getElem_toArray, List.getElem_cons_succ, List.getElem_cons_zero, List.setIfInBounds_toArray, List.set_cons_succ, List.set_cons_zero]
  (refine wpAnyW_take (i := 7) (v := ?_) rfl (by kernel_rfl) (by kernel_rfl) (by kernel_rfl) (by kernel_rfl) (fun _ _ _ h => h) (Or.inl ⟨by kernel_rfl, ?_⟩) (by assumption) ?_; rotate_left; focus (intro V9 hS9; go_simp; (try (with_reducible rfl)); done))
  try simp only [Act.put, List.getElem_toArray, List.getElem_cons_succ, List.getElem_cons_zero, List.setIfInBounds_toArray, List.set_cons_succ, List.set_cons_zero]
  (refine wpAnyW_take (i := 8) (v := ?_) rfl (by kernel_rfl) (by kernel_rfl) (by kernel_rfl) (by kernel_rfl) (fun _ _ _ h => h) (Or.inl ⟨by kernel_rfl, ?_⟩) (by assumption) ?_; rotate_left; focus (intro V9 hS9; obtain ⟨g0, g6, g1⟩ := hS9; go_simp; (try (with_reducible rfl)); done))
  try simp only [Act.put, List.getElem_toArray, List.getElem_cons_succ, List.getElem_cons_zero, List.setIfInBounds_toArray, List.set_cons_succ, List.set_cons_zero]
  (refine wpAnyW_take (i := 9) (v := ?_) rfl (by kernel_rfl) (by kernel_rfl) (by kernel_rfl) (by kernel_rfl) (fun _ _ _ h => h) (Or.inl ⟨by kernel_rfl, ?_⟩) (by assumption) ?_; rotate_left; focus (intro V9 hS9; go_simp; (try (with_reducible rfl)); done))
  try simp only [Act.put, List.getElem_toArray, List.getElem_cons_succ, List.getElem_cons_zero, List.setIfInBounds_toArray, List.set_cons_succ, List.set_cons_zero]
  (refine wpAnyW_take (i := 10) (v := ?_) rfl (by kernel_rfl) (by kernel_rfl) (by kernel_rfl) (by kernel_rfl) (fun _ _ _ h => h) (Or.inl ⟨by kernel_rfl, ?_⟩) (by assumption) ?_; rotate_left; focus (intro V9 hS9; go_simp; (try (with_reducible rfl)); done))
  try simp only [Act.put, List.getElem_toArray, List.getElem_cons_succ, List.getElem_cons_zero, List.setIfInBounds_toArray, List.set_cons_succ, List.set_cons_zero]
  (refine wpAnyW_take (i := 11) (v := ?_) rfl (by kernel_rfl) (by kernel_rfl) (by kernel_rfl) (by kernel_rfl) (fun _ _ _ h => h) (Or.inl ⟨by kernel_rfl, ?_⟩) (by assumption) ?_; rotate_left; focus (intro V9 hS9; obtain ⟨g0, g6, g1⟩ := hS9; go_simp; (try (with_reducible rfl)); done))
  try simp only [Act.put, List.getElem_toArray, List.getElem_cons_succ, List.getElem_cons_zero, List.setIfInBounds_toArray, List.set_cons_succ, List.set_cons_zero]
  refine wpAnyW_ready (rs := [12]) (by kernel_rfl) (by simp) ?_
  refine AllReadyW.cons rfl (fun K hK => ?_) AllReadyW.nil
  go_simp
  refine (HRM.out _).mono ?_
  rintro r V9 ⟨rfl, rfl⟩
  refine hK.out _ _ (HK.out _ HZ0.out.1) (fun _ => ?_)
  clear hK K
  try simp only [Act.put, List.getElem_toArray, List.getElem_cons_succ, List.getElem_cons_zero, List.setIfInBounds_toArray, List.set_cons_succ, List.set_cons_zero]
  (refine wpAnyW_take (i := 13) (v := ?_) rfl (by kernel_rfl) (by kernel_rfl) (by kernel_rfl) (by kernel_rfl) (fun _ _ _ h => h) (Or.inl ⟨by kernel_rfl, ?_⟩) (by assumption) ?_; rotate_left; focus (intro V9 hS9; go_simp; (try (with_reducible rfl)); done))
  try simp only [Act.put, List.getElem_toArray, List.getElem_cons_succ, List.getElem_cons_zero, List.setIfInBounds_toArray, List.set_cons_succ, List.set_cons_zero]
  refine wpAnyW_ready (rs := [14]) (by kernel_rfl) (by simp) ?_
  refine AllReadyW.consE rfl (by kernel_rfl) (fun K hK => ?_) AllReadyW.nil
  go_simp
  refine (HW.out _ HZ0.out.1).mono ?_
  rintro r V2 ⟨rfl, R2, q2, hA2⟩
  refine hK.out _ _ ?_
  clear hK K
  try simp only [Act.put, List.getElem_toArray, List.getElem_cons_succ, List.getElem_cons_zero, List.setIfInBounds_toArray, List.set_cons_succ, List.set_cons_zero]
  refine wpAnyW_ready (rs := [15]) (by kernel_rfl) (by simp) ?_
  refine AllReadyW.consE rfl (by kernel_rfl) (fun K hK => ?_) AllReadyW.nil
  go_simp
  refine hK.out _ _ ?_
  clear hK K
  refine wpAnyW_done (by kernel_rfl) ?_ _
  have HA2 : Hid (RZA w pk pr q xj xd V2 R2 q2) := by
    refine ⟨hA2.rz, hA2.sim, (Fr.of_below HZ0.out.2 (RF pk pr q)).trans hA2.fr (fun i _ g => g), fun k hk => ?_⟩
    rcases hA2.grown k hk with h9 | h9
    · exact .inl h9
    · have := HZ0.out.2.size; exact .inr (by omega)
  clear hA2
  go_wp2
  go_ret
  unfold RJAct
  rw [HF.out]
  exact ⟨rfl, R2, q2, HA2.out⟩
theorem bytes_cat (a b : List UInt8) : (⟨a.toArray⟩ : ByteArray) ++ ⟨b.toArray⟩ = ⟨(a ++ b).toArray⟩ := by
  apply ByteArray.ext
  simp
theorem wr_keeps2 (J : JV) (D : DS) (hS : Sim D R) (hlg : D.log.length + 1 ≤ 1000000) : (J.wr D).2.2.log.length ≤ D.log.length + 1 ∧ (J.wr D).2.2.size = D.size ∧ (J.wr D).2.2.nb = D.nb ∧ ((J.wr D).1 = 0 → (J.wr D).2.1 = { J with safe := J.to_ D }) ∧ ((J.wr D).1 ≠ 0 → (J.wr D).2.1 = { J with broken := true }) := by
  have h1 := (sim_write hS ((J.from_ + J.blk D : Nat) : Int) (J.image D) hlg).2.2
  have h2 := wr_size (D := D) ((J.from_ + J.blk D : Nat) : Int) (J.image D)
  unfold JV.wr
  simp only
  by_cases h : (D.write ((J.from_ + J.blk D : Nat) : Int) (J.image D)).1 = 0
  · rw [if_pos h]
    exact ⟨h1, h2.1, h2.2, fun _ => rfl, fun h9 => absurd rfl h9⟩
  · rw [if_neg h]
    exact ⟨h1, h2.1, h2.2, fun h9 => absurd h9 h, fun _ => rfl⟩
def rgap (pk n : Nat) (w : World) : Nat := match w.cell? ⟨pk, 6, none⟩ with
  | .some (.int _ z) => n - z.toNat
  | _ => 0
theorem rgap_eq (h : RZ pk pr q J R w) (n : Nat) : rgap pk n w = n - J.safe := by
  have h1 : w.cell? ⟨pk, 6, none⟩ = some (.int .i64 (J.safe : Int)) := h.obj.cell 6
  unfold rgap
  rw [h1]
  simp
theorem flushes_more {k : Nat} {J : JV} {D : DS} (h : J.safe / (D.size - 15) < J.stream.length / (D.size - 15)) : JV.flushes (k + 1) J D = if (J.wr D).1 = 0 then JV.flushes k (J.wr D).2.1 (J.wr D).2.2 else J.wr D := by
  rw [JV.flushes, if_pos h]
theorem flushes_end {k : Nat} {J : JV} {D : DS} (h : ¬ J.safe / (D.size - 15) < J.stream.length / (D.size - 15)) : JV.flushes (k + 1) J D = (0, J, D) := by
  rw [JV.flushes, if_neg h]
set_option maxRecDepth 100000 in
set_option maxHeartbeats 4000000 in
theorem rapp_any (h : RZ pk pr q J R w) (hS : Sim D R) (hj : JOk J D) (l : List UInt8) (hln : l.length ≤ 1000000) (hlg : D.log.length + J.len + 1 ≤ 1000000) :
    Calls Try.prog 30 #[.pointer (some ⟨pk, 0, none⟩), .string ⟨l.toArray⟩] w (RJAct w pk pr q (J.app D l)) := by
  have hok := hS.dok
  have h1 := hok.s1
  have h2 := hok.s2
  have hl := hj.len hok
  have hsf := hj.safe
  have hroom := hj.room
  have c8 : w.cell? ⟨pk, 8, none⟩ = some (.bool J.broken) := h.obj.cell 8
  by_cases hb : J.broken = true
  · have HF := Lib.hid (show J.app D l = (61, J, D) by unfold JV.app; rw [if_pos hb])
    rw [hb] at c8
    have HZ := Lib.hid (RZA.quiet h hS (Below.refl _ _))
    clear h hS hb
    go_enter Try.func30, Try.ntmps30
    go_wp2
    go_ret
    unfold RJAct
    rw [HF.out]
    exact ⟨rfl, R, q, HZ.out⟩
  have hbf : J.broken = false := by simpa using hb
  rw [hbf] at c8
  have HT := Lib.hid (rText_any (.slice none 0 0) [] l w w.heap.size (.inl (World.ownsRow_nil _ _ _ _)) (Nat.le_refl _) (by simp; omega))
  obtain ⟨x, hx⟩ : ∃ x, laidS l = x := ⟨_, rfl⟩
  have hxl : x.length ≤ 1000010 := by
    rw [← hx]; unfold laidS
    rw [List.length_append, laidB_len]
    have := wid_le l.length; omega
  rw [hx, List.nil_append] at HT
  obtain ⟨cp, hcp⟩ : ∃ cp, J.len * (D.size - 15) = cp := ⟨_, rfl⟩
  have hcp9 : cp ≤ 67108864 := by
    rw [← hcp]
    have : J.len * (D.size - 15) ≤ 16384 * 4096 := Nat.mul_le_mul hj.l2 (by omega)
    omega
  rw [hcp] at hroom
  have HCAP : Hid (∀ V, RZ pk pr q J R V → Calls Try.prog 56 #[.pointer (some ⟨pk, 0, none⟩)] V fun e w' => e = .returned (.int .i64 (cp : Int)) ∧ ∃ n, w' = V.drewN n) := fun V hV => by rw [← hcp]; exact rcap_any hV hS hj.l2
  obtain ⟨xn, hxn⟩ : ∃ xn, x.length = xn := ⟨_, rfl⟩
  obtain ⟨sn, hsn⟩ : ∃ sn, J.stream.length = sn := ⟨_, rfl⟩
  have hlf : J.left D = cp - sn := by unfold JV.left; rw [hcp, hsn]
  rw [hxn] at HT hxl
  rw [hsn] at hl hsf hroom
  have HXN := Lib.hid hxn
  have HSN := Lib.hid hsn
  have hz1 : (⟨x.toArray⟩ : ByteArray).size = xn := by show x.toArray.size = _; simp [hxn]
  have hz2 : (⟨J.stream.toArray⟩ : ByteArray).size = sn := by show J.stream.toArray.size = _; simp [hsn]
  have q1 : IntKind.i64.wrap ((cp : Int) - (sn : Int)) = (cp : Int) - (sn : Int) := IntWalk.i64_in _ (by omega)
  by_cases hfull : J.left D < xn
  · have HF := Lib.hid (show J.app D l = (60, J, D) by unfold JV.app; rw [if_neg hb, hx, hxn, if_pos hfull])
    have hd : decide ((cp : Int) - (sn : Int) < (xn : Int)) = true := by simp; omega
    have HZ := Lib.hid (fun V hV => RZA.quiet h hS (w' := V) hV)
    clear h hS hb hx hxn hsn hcp
    go_enter Try.func30, Try.ntmps30
    go_upto_region 4 with (go_at_call 55; refine HT.out.mono ?_; rintro r w1 ⟨v1, rfl, ho1, hb1⟩; (obtain ⟨A1, c1, rfl, hr1, _, _⟩ := own_rd ho1); (have hst := run_str (P := Try.prog) Try.underlying23 Try.underlying5 Try.underlying9 w1 A1 xn c1 x HXN.out hr1))
    have HZ1 := Lib.hid (HZ.out w1 hb1)
    have c5 : w1.cell? ⟨pk, 5, none⟩ = some (.string ⟨J.stream.toArray⟩) := HZ1.out.rz.obj.cell 5
    have HC1 := Lib.hid (fun n => HCAP.out _ (HZ1.out.rz.drewN n))
    go_quiet ((go_at_call 56; exact Calls.quiet_of (HC1.out _)))
    go_wp2
    go_ret
    unfold RJAct
    rw [HF.out]
    exact ⟨rfl, R, q, HZ.out _ (below_drewN hb1 _)⟩
  · have hd : decide ((cp : Int) - (sn : Int) < (xn : Int)) = false := by simp; omega
    obtain ⟨S1, hS1⟩ : ∃ S1, J.stream ++ x = S1 := ⟨_, rfl⟩
    have hS1l : S1.length = sn + xn := by rw [← hS1, List.length_append, hsn, hxn]
    obtain ⟨n1, hn1⟩ : ∃ n1, S1.length = n1 := ⟨_, rfl⟩
    obtain ⟨rm, hrm⟩ : ∃ rm, D.size - 15 = rm := ⟨_, rfl⟩
    have hxp : 0 < xn := by rw [← hxn, ← hx]; exact laidS_pos l
    have HF := Lib.hid (show J.app D l = JV.flushes (n1 + 1) { J with stream := S1, records := J.records + 1 } D by
      unfold JV.app
      rw [if_neg hb, hx, hxn, if_neg hfull, hsn, hS1, ← hn1, hS1l])
    have hj1 : JOk { J with stream := S1, records := J.records + 1 } D := ⟨hj.area, hj.l1, hj.l2, hj.ep, hj.lf1, hj.lf2, by show J.safe ≤ S1.length; omega, by show S1.length ≤ J.len * (D.size - 15); rw [hcp]; omega, by show J.records + 1 ≤ S1.length; have := hj.recs; omega⟩
    have hcat : (⟨J.stream.toArray⟩ : ByteArray) ++ ⟨x.toArray⟩ = ⟨S1.toArray⟩ := by rw [bytes_cat, hS1]
    have hz3 : (⟨S1.toArray⟩ : ByteArray).size = n1 := by show S1.toArray.size = _; simp [hn1]
    have hnb9 : n1 ≤ cp := by omega
    have HRM : Hid (∀ V, Calls Try.prog 14 #[.int .i64 (R.size : Int)] V fun e w' => e = .returned (.int .i64 (rm : Int)) ∧ V = w') := fun V => by rw [← hrm]; exact rroomD hS V
    have HZ := Lib.hid (fun V hV => RZA.quiet h hS (w' := V) hV)
    have HJ1 := Lib.hid hj1
    have hrec := hj.recs
    have HN1 := Lib.hid hn1
    have hr0 : ¬ rm = 0 := by omega
    have hlq : n1 / rm ≤ J.len := Nat.div_le_of_le_mul (by rw [Nat.mul_comm, ← hrm, hcp]; exact hnb9)
    have hrc9 : J.records ≤ 67108864 := by rw [hsn] at hrec; omega
    have HRMD := Lib.hid hrm
    have h15 : 49 ≤ rm := by omega
    have h16 : rm ≤ 4081 := by omega
    clear h hS hb hx hxn hsn hcp hS1 hS1l hn1 hj1 hfull hlf hrec hrm
    go_enter Try.func30, Try.ntmps30
    go_upto_region 4 with (go_at_call 55; refine HT.out.mono ?_; rintro r w1 ⟨v1, rfl, ho1, hb1⟩; (obtain ⟨A1, c1, rfl, hr1, _, _⟩ := own_rd ho1); (have hst := run_str (P := Try.prog) Try.underlying23 Try.underlying5 Try.underlying9 w1 A1 xn c1 x HXN.out hr1))
    have HZ1 := Lib.hid (HZ.out w1 hb1)
    have c5 : w1.cell? ⟨pk, 5, none⟩ = some (.string ⟨J.stream.toArray⟩) := HZ1.out.rz.obj.cell 5
    have HC1 := Lib.hid (fun n => HCAP.out _ (HZ1.out.rz.drewN n))
    go_quiet ((go_at_call 56; exact Calls.quiet_of (HC1.out _)))
    go_upto_region 6 with (fail)
    refine wp_world (fun V => RZA w pk pr q J D V R q) (HZ.out _ (below_drewN hb1 _)) ?_
    clear c5 HC1 HZ1 hst hr1 ho1 hb1 HT HCAP HZ hd q1 c8
    intro V2 hA2
    have c5 : V2.cell? ⟨pk, 5, none⟩ = some (.string ⟨J.stream.toArray⟩) := hA2.rz.obj.cell 5
    have cf5 := hA2.rz.obj.frozen 5
    have hA3 := hA2.set_ (J'' := { J with stream := S1 }) 5 (.string ⟨S1.toArray⟩) rfl
    clear hA2
    go_upto_region 7 with (fail)
    refine wp_world (fun V => RZA w pk pr q { J with stream := S1 } D V R q) hA3 ?_
    clear hA3 c5 cf5
    intro V3 hA3
    have c7 : V3.cell? ⟨pk, 7, none⟩ = some (.int .i64 (J.records : Int)) := hA3.rz.obj.cell 7
    have cf7 := hA3.rz.obj.frozen 7
    have q1 : IntKind.i64.wrap ((J.records : Int) + 1) = (J.records : Int) + 1 := IntWalk.i64_in _ (by omega)
    have hA4 := hA3.set_ (J'' := { J with stream := S1, records := J.records + 1 }) 7 (.int .i64 ((J.records : Int) + 1)) rfl
    clear hA3
    go_upto_region 8 with (fail)
    refine wp_world (fun V => RZA w pk pr q { J with stream := S1, records := J.records + 1 } D V R q) hA4 ?_
    clear hA4 c7 cf7 q1
    intro V4 hA4
    have c0 : V4.cell? ⟨pk, 0, none⟩ = some (.pointer (some ⟨pr, 0, none⟩)) := hA4.rz.obj.cell 0
    have r1 : V4.cell? ⟨pr, 1, none⟩ = some (.int .i64 (R.size : Int)) := hA4.rz.ref.obj.cell 1
    have HA4 := Lib.hid hA4
    clear hA4
    go_upto_region 9 with (go_at_call 14; refine (HRM.out _).mono ?_; rintro e w' ⟨rfl, rfl⟩)
    clear c0 r1
    go_loopw [7] (fun _ wr => ∃ (k : Nat) (J' : JV) (D' : DS) (R' : RS) (q' : RPl), RZA w pk pr q J' D' wr R' q' ∧ JOk J' D' ∧ J'.stream = S1 ∧ J'.len = J.len ∧ D'.size = D.size ∧ JV.flushes (k + 1) J' D' = J.app D l ∧ n1 / rm - J'.safe / rm ≤ k ∧ D'.log.length + (n1 / rm - J'.safe / rm) + 1 ≤ 1000000) (fun _ wr => rgap pk n1 wr)
    case atStart => exact ⟨n1, _, D, R, q, HA4.out, HJ1.out, rfl, rfl, rfl, HF.out.symm, Nat.le_trans (Nat.sub_le _ _) (Nat.div_le_self n1 rm), by
      show D.log.length + (n1 / rm - J.safe / rm) + 1 ≤ _
      have h9 : n1 / rm - J.safe / rm ≤ J.len := Nat.le_trans (Nat.sub_le _ _) hlq
      omega⟩
    case round =>
      obtain ⟨k, J', D', R', q', hA, hjk, hst', hln', hsz, hfl, hk, hlg'⟩ := hrel
      clear HA4 HJ1 HF
      have HST := Lib.hid hst'
      have hsz15 : D'.size - 15 = rm := by rw [hsz]; exact HRMD.out
      have hn1' : J'.stream.length = n1 := by rw [hst']; exact HN1.out
      have hsf' := hjk.safe
      rw [hn1'] at hsf'
      obtain ⟨sfe, hsfe⟩ : ∃ sfe, J'.safe = sfe := ⟨_, rfl⟩
      obtain ⟨i, hi⟩ : ∃ i, sfe / rm = i := ⟨_, rfl⟩
      obtain ⟨hh, hhh⟩ : ∃ hh, (i + 1) * rm = hh := ⟨_, rfl⟩
      rw [hsfe] at hk hlg' hsf'
      rw [hi] at hk hlg'
      have e1 : i * rm ≤ sfe := by rw [← hi]; exact Nat.div_mul_le_self _ _
      have e2 : sfe < i * rm + rm := by
        rw [← hi]
        exact Nat.lt_div_mul_add (by omega)
      have e3 : hh = i * rm + rm := by rw [← hhh, Nat.succ_mul]
      have hblk : J'.blk D' = i := by unfold JV.blk; rw [hsz15, hsfe, hi]
      have c5 : wr.cell? ⟨pk, 5, none⟩ = some (.string ⟨S1.toArray⟩) := by
        have h9 : wr.cell? ⟨pk, 5, none⟩ = some (.string ⟨J'.stream.toArray⟩) := hA.rz.obj.cell 5
        rw [hst'] at h9
        exact h9
      have c6 : wr.cell? ⟨pk, 6, none⟩ = some (.int .i64 (sfe : Int)) := by
        have h9 : wr.cell? ⟨pk, 6, none⟩ = some (.int .i64 (J'.safe : Int)) := hA.rz.obj.cell 6
        rw [hsfe] at h9
        exact h9
      have hi9 : i ≤ sfe := by rw [← hi]; exact Nat.div_le_self _ _
      have q1 : (sfe : Int) / (rm : Int) = (i : Int) := by rw [← hi]; rfl
      have q2 : ((rm : Int) == 0) = false := by simp; omega
      have q3 : IntKind.i64.wrap (i : Int) = (i : Int) := IntWalk.i64_in _ (by omega)
      have q4 : IntKind.i64.wrap ((i : Int) + 1) = (i : Int) + 1 := IntWalk.i64_in _ (by omega)
      have q5 : ((i : Int) + 1) * (rm : Int) = (hh : Int) := by rw [← hhh]; push_cast; rfl
      have q6 : IntKind.i64.wrap (hh : Int) = (hh : Int) := IntWalk.i64_in _ (by omega)
      have hgap := rgap_eq hA.rz n1
      rw [hsfe] at hgap
      have HGAP := Lib.hid hgap
      by_cases hc : i < n1 / rm
      · have hhn : hh ≤ n1 := by
          rw [← hhh]
          exact Nat.le_trans (Nat.mul_le_mul_right _ hc) (Nat.div_mul_le_self _ _)
        have hd : decide (hh ≤ n1) = true := by simpa using hhn
        obtain ⟨k', rfl⟩ : ∃ k', k = k' + 1 := ⟨k - 1, by omega⟩
        have hfm := flushes_more (k := k' + 1) (J := J') (D := D') (by rw [hsz15, hsfe, hi, hn1']; exact hc)
        rw [hfl] at hfm
        obtain ⟨w1, w2, w3, w4, w5⟩ := wr_keeps2 J' D' hA.sim (by omega)
        have hjw := jok_wrote (D' := (J'.wr D').2.2) hjk w2 w3
        have hto : J'.to_ D' = hh := by unfold JV.to_; rw [hblk, hsz15, hn1', hhh]; omega
        rw [hto] at w4 hjw
        have HW : Hid (∀ n, Calls Try.prog 57 #[.pointer (some ⟨pk, 0, none⟩), .int .i64 (i : Int)] (wr.drewN n) fun r w' => r = .returned (.int .i64 ((J'.wr D').1 : Int)) ∧ ∃ R' q', RZA w pk pr q (J'.wr D').2.1 (J'.wr D').2.2 w' R' q') := fun n => by
          have h9 := rwr_any (hA.rz.drewN n) hA.sim hjk (by rw [hsfe, hn1']; omega) (by omega)
          rw [hblk] at h9
          exact h9.mono fun r w' ⟨h1, R2, q2, h2⟩ => ⟨h1, R2, q2, (hA.trans (RZA.quiet hA.rz hA.sim (below_drewN (Below.refl _ _) n))).trans h2⟩
        obtain ⟨X, hX⟩ : ∃ X, J'.wr D' = X := ⟨_, rfl⟩
        rw [hX] at HW hfm w1 w2 w3 w4 w5 hjw
        obtain ⟨xe, xj, xd⟩ := X
        simp only at hfm w1 w2 w3 w4 w5 hjw
        have HC6 : Hid (∀ n, (wr.drewN n).cell? ⟨pk, 6, none⟩ = some (.int .i64 (sfe : Int))) := fun n => c6
        clear hA hfl hX hjk hst' hgap
        go_upto_region 9 with (fail)
        go_quiet (fail)
        by_cases hx0 : xe = 0
        · subst hx0
          rw [if_pos rfl] at hfm
          have HP := Lib.hid (And.intro (w4 rfl) hfm)
          clear w4 w5 hfm
          go_wp2_with (go_at_call 57; refine (HW.out _).mono ?_; rintro r w9 ⟨rfl, R9, q9, hA9⟩; (have HA9 := Lib.hid hA9); clear hA9)
          go_roundw
          case rel =>
            have hxj := HP.out.1
            have hfm := HP.out.2
            have hA9 := HA9.out
            refine ⟨k', xj, xd, R9, q9, hA9, by rw [hxj]; exact hjw, by rw [hxj]; exact HST.out, by rw [hxj]; exact hln', by rw [w2]; exact hsz, hfm.symm, ?_, ?_⟩
            · rw [hxj]
              show n1 / rm - hh / rm ≤ k'
              rw [← hhh, Nat.mul_div_cancel _ (by omega)]
              omega
            · rw [hxj]
              show xd.log.length + (n1 / rm - hh / rm) + 1 ≤ 1000000
              rw [← hhh, Nat.mul_div_cancel _ (by omega)]
              omega
          case measure =>
            have hA9 := HA9.out
            have hxj : xj.safe = hh := by rw [HP.out.1]
            rw [rgap_eq hA9.rz n1, HGAP.out, hxj]
            omega
        · have d1 : ((xe : Int) != 0) = true := by rw [bne_iff_ne]; omega
          have HP : Hid (J.app D l = (xe, xj, xd)) := by
            rw [if_neg hx0] at hfm
            exact hfm
          clear w4 w5 hfm
          go_wp2_with (go_at_call 57; refine (HW.out _).mono ?_; rintro r w9 ⟨rfl, R9, q9, hA9⟩; (have HA9 := Lib.hid hA9); clear hA9)
          go_ret
          unfold RJAct
          rw [HP.out]
          exact ⟨rfl, R9, q9, HA9.out⟩
      · have hhn : ¬ hh ≤ n1 := fun h9 => hc (by
          rw [← hhh] at h9
          exact (Nat.le_div_iff_mul_le (by omega)).2 h9)
        have hd : decide (hh ≤ n1) = false := by simpa using hhn
        have hfe := flushes_end (k := k) (J := J') (D := D') (by rw [hsz15, hsfe, hi, hn1']; exact hc)
        rw [hfl] at hfe
        have HP := Lib.hid hfe
        have HAQ := Lib.hid (fun n => hA.trans (RZA.quiet hA.rz hA.sim (below_drewN (Below.refl wr.heap.size wr) n)))
        clear hA hfl hfe hjk hst' hgap
        go_upto_region 9 with (fail)
        go_quiet (fail)
        go_wp2
        go_ret
        unfold RJAct
        rw [HP.out]
        exact ⟨rfl, R', q', HAQ.out _⟩
end
end
end Go.Proofs.Ytcnhfbckaacalaa
