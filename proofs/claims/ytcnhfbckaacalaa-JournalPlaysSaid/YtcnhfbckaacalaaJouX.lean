/- The walk of write of layer 6. -/
import Derived.Test.YtcnhfbckaacalaaJouW
namespace Go.Proofs.Ytcnhfbckaacalaa
open Go.RowKit
set_option linter.unusedVariables false
section
variable {w0 : Bas} {w w' : World} {pj pd : Nat} {v : Value} {J J' : JV} {p p' : Pl} {D D' : DS}
theorem wr_size (D : DS) (n : Int) (l : List UInt8) : (D.write n l).2.size = D.size ∧ (D.write n l).2.nb = D.nb := by
  unfold DS.write
  split
  · exact ⟨rfl, rfl⟩
  · split
    · exact ⟨rfl, rfl⟩
    · split
      · exact ⟨rfl, rfl⟩
      · split <;> exact ⟨rfl, rfl⟩

set_option maxRecDepth 100000 in
set_option maxHeartbeats 4000000 in
theorem jwrite_any (h : JD w0 pj v J pd p D w) (hs : J.safe < J.stream.length) (hlg : D.log.length + 1 ≤ 1000000) :
    Calls Try.prog 50 #[.pointer (some ⟨pj, 0, none⟩)] w fun r w' => r = .returned (.int .i64 ((J.wr D).1 : Int)) ∧ ∃ p', JD w0 pj v (J.wr D).2.1 pd p' (J.wr D).2.2 w' := by
  have hok := h.ok
  have hj := h.jok
  have h1 := hok.s1
  have h2 := hok.s2
  have hl := hj.len hok
  obtain ⟨rm, hrm⟩ : ∃ rm, D.size - 15 = rm := ⟨_, rfl⟩
  have hrm1 : 49 ≤ rm := by omega
  have hrm2 : rm ≤ 4081 := by omega
  -- the numbers
  obtain ⟨i, hi⟩ : ∃ i, J.blk D = i := ⟨_, rfl⟩
  obtain ⟨to, hto⟩ : ∃ to, J.to_ D = to := ⟨_, rfl⟩
  obtain ⟨lo, hlo⟩ : ∃ lo, i * rm = lo := ⟨_, rfl⟩
  obtain ⟨hi2, hhi2⟩ : ∃ x, (i + 1) * rm = x := ⟨_, rfl⟩
  have hi' : i = J.safe / rm := by rw [← hi, JV.blk, hrm]
  have hlh : hi2 = lo + rm := by rw [← hhi2, ← hlo, Nat.succ_mul]
  have hlos : lo ≤ J.safe ∧ J.safe < hi2 := by
    have e1 := Nat.div_mul_le_self J.safe rm
    have e2 := Nat.lt_div_mul_add (a := J.safe) (b := rm) (by omega)
    rw [← hi', hlo] at e1 e2
    omega
  have hil : i < J.len := by
    have := hj.room
    rw [hrm] at this
    have h9 : i * rm < J.len * rm := by omega
    exact Nat.lt_of_mul_lt_mul_right h9
  have hto' : to = min J.stream.length hi2 := by rw [← hto, JV.to_, hi, hrm, hhi2]
  have hlt : lo < to ∧ to ≤ J.stream.length ∧ to ≤ lo + rm := by omega
  have hload : J.load D = (J.stream.drop lo).take (to - lo) := by rw [JV.load, hi, hto, hrm, hlo]
  have hll : (J.load D).length = to - lo := by rw [hload]; simp; omega
  have hl2 := hj.l2
  have hnum : jnum J.epoch J.life i < 18446744073709551616 := by
    have := hj.ep; have := hj.lf2
    unfold jnum; omega
  have himg : J.image D = sealed D.size 74 (jnum J.epoch J.life i) (J.load D) := by rw [JV.image, hi]
  have hil3 : (J.image D).length = D.size := by rw [himg]; exact sealed_len h1 (by rw [hll]; omega)
  have hpu : putP (D.size : Int) 74 (jnum J.epoch J.life i) (J.load D) = (0, J.image D) := by rw [himg]; exact putP_ok h1 h2 (by omega) (by rw [hll]; omega)
  obtain ⟨Av, cv, rfl, hrd, hcv, hcm⟩ := h.str.form (by omega)
  obtain ⟨b, off, rfl⟩ : ∃ b off, Av = some ⟨b, off, none⟩ := by
    rcases hrd with h9 | ⟨b, off, h9, _⟩
    · rw [h9] at hs; simp at hs
    · exact ⟨b, off, h9⟩
  have hrl : ∀ V, Below w.heap.size w V → Rd V (some ⟨b, off + lo, none⟩) (J.load D) := fun V hV => by
    rw [hload]; exact (hrd.below hV).sub lo _
  have HRL := Lib.hid hrl
  have HROOM : Hid (∀ V, JD w0 pj (.slice (some ⟨b, off, none⟩) J.stream.length cv) J pd p D V → Calls Try.prog 46 #[.pointer (some ⟨pj, 0, none⟩)] V fun e w' => e = .returned (.int .i64 (rm : Int)) ∧ V = w') := fun V hV => by rw [← hrm]; exact jroom_any hV
  have HSIZE : Hid (∀ V, JD w0 pj (.slice (some ⟨b, off, none⟩) J.stream.length cv) J pd p D V → Calls Try.prog 66 #[.pointer (some ⟨pd, 0, none⟩)] V fun e w' => e = .returned (.int .i64 (D.size : Int)) ∧ V = w') := fun V hV => size_any hV.disk
  have HNUM : Hid (∀ V, Calls Try.prog 26 #[.int .i64 (J.epoch : Int), .int .i64 (J.life : Int), .int .i64 (i : Int)] V fun r w' => r = .returned (.int .u64 (jnum J.epoch J.life i : Int)) ∧ V = w') := fun V => jnumber_any _ _ _ V hj.ep hj.lf2 (by omega)
  have HPUT : Hid (∀ V, Below w.heap.size w V → Calls Try.prog 74 #[.int .i64 (D.size : Int), .agg #[.int .u8 74, .int .u64 (jnum J.epoch J.life i : Int), .slice (some ⟨b, off + lo, none⟩) (to - lo) (cv - lo)]] V fun r w' => ∃ g, r = .returned (.tuple #[.slice (some ⟨g, 0, none⟩) D.size D.size, .int .i64 0]) ∧ Rd w' (some ⟨g, 0, none⟩) (J.image D) ∧ Below V.heap.size V w') := fun V hV => (put_any (D.size : Int) 74 (jnum J.epoch J.life i) (some ⟨b, off + lo, none⟩) (to - lo) (cv - lo) (J.load D) V (by omega) hnum hll (hrl V hV)).mono fun r w' ⟨hb, h9⟩ => by
    rw [hpu] at h9
    rcases h9 with ⟨h9, _⟩ | ⟨_, g, hr, hg, hB, _⟩
    · exact absurd rfl h9
    · refine ⟨g, by simpa using hr, ?_, hb⟩
      have := hB.rd0 (J.image D).length
      simpa using this
  have HJ := Lib.hid h
  have HEP := Lib.hid hj
  have HOK := Lib.hid hok
  have HIMG := Lib.hid hil3
  have hwd : J.wr D = if (D.write ((J.from_ + i : Nat) : Int) (J.image D)).1 = 0 then (0, { J with safe := to }, (D.write ((J.from_ + i : Nat) : Int) (J.image D)).2) else ((D.write ((J.from_ + i : Nat) : Int) (J.image D)).1, { J with broken := true }, (D.write ((J.from_ + i : Nat) : Int) (J.image D)).2) := by unfold JV.wr; simp only [hi, hto]
  have HWD := Lib.hid hwd
  clear hwd
  have hfr : J.from_ + J.len ≤ D.nb := hj.area
  have hnb := hok.n2
  have q1 : (J.safe : Int) / (rm : Int) = (i : Int) := by rw [hi']; rfl
  have q2 : ((rm : Int) == 0) = false := by simp; omega
  have q3 : IntKind.i64.wrap (i : Int) = (i : Int) := IntWalk.i64_in _ (by omega)
  have q4 : IntKind.i64.wrap ((i : Int) + 1) = (i : Int) + 1 := IntWalk.i64_in _ (by omega)
  have q5 : ((i : Int) + 1) * (rm : Int) = (hi2 : Int) := by rw [← hhi2]; push_cast; rfl
  have q6 : (i : Int) * (rm : Int) = (lo : Int) := by rw [← hlo]; push_cast; rfl
  have q7 : IntKind.i64.wrap (hi2 : Int) = (hi2 : Int) := IntWalk.i64_in _ (by omega)
  have q8 : IntKind.i64.wrap (lo : Int) = (lo : Int) := IntWalk.i64_in _ (by omega)
  have q9 : min (J.stream.length : Int) (hi2 : Int) = (to : Int) := by rw [hto']; omega
  obtain ⟨c0, c1, c2, c3, c4, c5, c6, c7, c8⟩ := h.cells
  clear hlo hhi2 hi hto hto' hi' hload himg hpu hrl hll hnum hrd hlos hlh
  obtain ⟨n, hn⟩ : ∃ n, J.stream.length = n := ⟨_, rfl⟩
  rw [hn] at HROOM HSIZE HJ c5 q9 hl hs hlt hcv h
  have HN := Lib.hid hn
  clear hn
  go_enter Try.func50, Try.ntmps50
  go_wp2
  go_quiet ((go_at_call 46; exact Calls.quiet_of_same ((HROOM.out _ (HJ.out.drewN _)).mono fun e w' ⟨he, hw⟩ => ⟨he, hw.symm⟩)))
  go_upto_region 2 with (fail)
  refine wp_world (fun V => JD w0 pj (.slice (some ⟨b, off, none⟩) n cv) J pd p D V ∧ Below w.heap.size w V) ⟨HJ.out.drewN _, below_drewN (Below.refl _ _) _⟩ ?_
  clear c0 c1 c2 c3 c4 c5 c6 c7 c8 q1 q2 h
  rintro V0 ⟨hJ0, hb0⟩
  have hcl : ∀ V, JD w0 pj (.slice (some ⟨b, off, none⟩) n cv) J pd p D V → V.cell? ⟨pj, 0, none⟩ = some (.pointer (some ⟨pd, 0, none⟩)) ∧ V.cell? ⟨pj, 3, none⟩ = some (.int .i64 (J.epoch : Int)) ∧ V.cell? ⟨pj, 4, none⟩ = some (.int .i64 (J.life : Int)) ∧ V.cell? ⟨pj, 5, none⟩ = some (.slice (some ⟨b, off, none⟩) n cv) := fun V hV => ⟨hV.cells.1, hV.cells.2.2.2.1, hV.cells.2.2.2.2.1, hV.cells.2.2.2.2.2.1⟩
  have HCL := Lib.hid hcl
  clear hcl
  have HK : Hid (∀ V, JD w0 pj (.slice (some ⟨b, off, none⟩) n cv) J pd p D V ∧ Below w.heap.size w V → (V.cell? ⟨pj, 0, none⟩ = some (.pointer (some ⟨pd, 0, none⟩)) ∧ V.cell? ⟨pj, 3, none⟩ = some (.int .i64 (J.epoch : Int)) ∧ V.cell? ⟨pj, 4, none⟩ = some (.int .i64 (J.life : Int)) ∧ V.cell? ⟨pj, 5, none⟩ = some (.slice (some ⟨b, off, none⟩) n cv)) ∧ JD w0 pj (.slice (some ⟨b, off, none⟩) n cv) J pd p D V ∧ Below w.heap.size w V) := fun V hV => ⟨HCL.out V hV.1, hV⟩
  have H00 : Hid (JD w0 pj (.slice (some ⟨b, off, none⟩) n cv) J pd p D V0.drew ∧ Below w.heap.size w V0.drew) := ⟨hJ0.keep (Below.refl _ _).drew, below_step hb0 (Below.refl _ _).drew⟩
  clear hJ0 hb0
  go_region_held3 (fun V => (V.cell? ⟨pj, 0, none⟩ = some (.pointer (some ⟨pd, 0, none⟩)) ∧ V.cell? ⟨pj, 3, none⟩ = some (.int .i64 (J.epoch : Int)) ∧ V.cell? ⟨pj, 4, none⟩ = some (.int .i64 (J.life : Int)) ∧ V.cell? ⟨pj, 5, none⟩ = some (.slice (some ⟨b, off, none⟩) n cv)) ∧ JD w0 pj (.slice (some ⟨b, off, none⟩) n cv) J pd p D V ∧ Below w.heap.size w V) (first | exact HK.out _ H00.out | assumption) ((first
    | (go_at_call 46; refine (HROOM.out _ (And.left (And.right (by assumption)))).mono ?_; rintro r V9 ⟨rfl, rfl⟩)))
  rename_i hHeld9
  have hH9 := hHeld9.2
  clear hHeld9
  go_upto_region 3 with (fail)
  refine wp_world (fun V => JD w0 pj (.slice (some ⟨b, off, none⟩) n cv) J pd p D V ∧ Below w.heap.size w V) hH9 ?_
  clear hH9 H00
  rintro V1 ⟨hJ0, hb0⟩
  have H00 : Hid (JD w0 pj (.slice (some ⟨b, off, none⟩) n cv) J pd p D V1.drew ∧ Below w.heap.size w V1.drew) := ⟨hJ0.keep (Below.refl _ _).drew, below_step hb0 (Below.refl _ _).drew⟩
  clear hJ0 hb0
  have s1 : (0 : Int) ≤ (lo : Int) := by omega
  have s2 : (lo : Int) ≤ (to : Int) := by omega
  have s3 : (to : Int) ≤ (cv : Int) := by omega
  have s4 : lo ≤ to := by omega
  have s5 : to ≤ cv := by omega
  have s6 : ¬ cv = lo := by omega
  go_region_held3 (fun V => (V.cell? ⟨pj, 0, none⟩ = some (.pointer (some ⟨pd, 0, none⟩)) ∧ V.cell? ⟨pj, 3, none⟩ = some (.int .i64 (J.epoch : Int)) ∧ V.cell? ⟨pj, 4, none⟩ = some (.int .i64 (J.life : Int)) ∧ V.cell? ⟨pj, 5, none⟩ = some (.slice (some ⟨b, off, none⟩) n cv)) ∧ JD w0 pj (.slice (some ⟨b, off, none⟩) n cv) J pd p D V ∧ Below w.heap.size w V) (first | exact HK.out _ H00.out | exact HK.out _ hP9 | assumption) ((first
    | (go_at_call 46; refine (HROOM.out _ (And.left (And.right (by assumption)))).mono ?_; rintro r V9 ⟨rfl, rfl⟩)
    | (go_at_call 66; refine (HSIZE.out _ (And.left (And.right (by assumption)))).mono ?_; rintro r V9 ⟨rfl, rfl⟩)
    | (go_at_call 26; refine (HNUM.out _).mono ?_; rintro r V9 ⟨rfl, rfl⟩)
    | (go_at_call 74; refine (HPUT.out _ (And.right (And.right (by assumption)))).mono ?_; rintro r V9 ⟨g, rfl, hg9, hb9⟩; have hP9 := And.intro (JD.keep (And.left (And.right (by assumption))) hb9) (below_step (And.right (And.right (by assumption))) hb9); clear hb9)))
  rename_i hHeld9
  clear hHeld9 H00 HROOM HSIZE HNUM HPUT HK HRL HCL
  have q10 : IntKind.i64.wrap ((J.from_ : Int) + (i : Int)) = (J.from_ : Int) + (i : Int) := IntWalk.i64_in _ (by omega)
  obtain ⟨ew, hew⟩ : ∃ ew, (D.write ((J.from_ + i : Nat) : Int) (J.image D)).1 = ew := ⟨_, rfl⟩
  obtain ⟨D2, hD2⟩ : ∃ D2, (D.write ((J.from_ + i : Nat) : Int) (J.image D)).2 = D2 := ⟨_, rfl⟩
  have hD2s : D2.size = D.size ∧ D2.nb = D.nb := by rw [← hD2]; exact wr_size _ _ _
  have hD2o : D2.Ok := by rw [← hD2]; exact DS.write_ok_ hok hlg
  rw [hew, hD2] at HWD
  go_upto_region 5 with (fail)
  refine wp_world (fun V => (JD w0 pj (.slice (some ⟨b, off, none⟩) n cv) J pd p D V ∧ Rd V (some ⟨g, 0, none⟩) (J.image D)) ∧ Below w.heap.size w V) ⟨⟨hP9.1, hg9⟩, hP9.2⟩ ?_
  clear hP9 hg9
  rintro V2 ⟨⟨hJ2, hg2⟩, hb2⟩
  have c0 := hJ2.cells.1
  have c1 := hJ2.cells.2.1
  have HWR : Hid (Calls Try.prog 33 #[.pointer (some ⟨pd, 0, none⟩), .int .i64 ((J.from_ : Int) + (i : Int)), .slice (some ⟨V2.heap.size, 0, none⟩) 1 1] (V2.alloc (.cells #[.slice (some ⟨g, 0, none⟩) D.size D.size] 23)).drew fun r w' => r = .returned (.int .i64 (ew : Int)) ∧ ∃ p', JD w0 pj (.slice (some ⟨b, off, none⟩) n cv) J pd p' D2 w') := by
    have hJ3 := hJ2.keep (below_alloc V2 (.cells #[.slice (some ⟨g, 0, none⟩) D.size D.size] 23)).drew
    have h9 := write_any (A := some ⟨V2.heap.size, 0, none⟩) (c := 1) (m := 1) (n := ((J.from_ + i : Nat) : Int)) hJ3.disk hok (ls := [J.image D]) (l := J.image D) (by simp) rfl (by omega) (by rw [HIMG.out]; omega) (rdl_one hg2 HIMG.out).drew
    rw [show ((J.from_ : Int) + (i : Int)) = ((J.from_ + i : Nat) : Int) by push_cast; rfl]
    refine h9.mono fun r w' ⟨hr, p', ha⟩ => ?_
    rw [hew] at hr
    rw [hD2] at ha
    exact ⟨hr, p', hJ3.disk_act ha hD2o hD2s.2 hD2s.1⟩
  have HC9 : Hid (∀ V, Below V2.heap.size V2 V → V.cell? ⟨pj, 0, none⟩ = some (.pointer (some ⟨pd, 0, none⟩)) ∧ V.cell? ⟨pj, 1, none⟩ = some (.int .i64 (J.from_ : Int))) := fun V hV => ⟨(hJ2.keep hV).cells.1, (hJ2.keep hV).cells.2.1⟩
  have HCW : Hid (∀ V p', JD w0 pj (.slice (some ⟨b, off, none⟩) n cv) J pd p' D2 V → V.cell? ⟨pj, 0, none⟩ = some (.pointer (some ⟨pd, 0, none⟩)) ∧ V.cell? ⟨pj, 1, none⟩ = some (.int .i64 (J.from_ : Int))) := fun V p' hV => ⟨hV.cells.1, hV.cells.2.1⟩
  clear hJ2 hg2 hb2 hew hD2 c0 c1
  go_region_held3 (fun V => V.cell? ⟨pj, 0, none⟩ = some (.pointer (some ⟨pd, 0, none⟩)) ∧ V.cell? ⟨pj, 1, none⟩ = some (.int .i64 (J.from_ : Int))) (first | exact HC9.out _ (Below.refl _ _).drew | exact HC9.out _ (below_alloc _ _).drew | exact HC9.out _ (below_step (Below.refl _ _).drew (below_alloc _ _)) | exact HCW.out _ _ hJ9) ((first
    | (go_at_call 33; refine HWR.out.mono ?_; rintro r V9 ⟨rfl, p9, hJ9⟩)))
  rename_i hHeld9
  clear hHeld9 HC9 HWR HCW
  have c5f := hJ9.obj.frozen 6
  have c8f := hJ9.obj.frozen 8
  have c5 := hJ9.cells.2.2.2.2.2.2.1
  have c8 := hJ9.cells.2.2.2.2.2.2.2.2
  have hbr := hJ9.jok
  by_cases he0 : ew = 0
  · rw [if_pos he0] at HWD
    have hJK : JOk { J with safe := to } D2 := ⟨hbr.area, hbr.l1, hbr.l2, hbr.ep, hbr.lf1, hbr.lf2, by show to ≤ J.stream.length; rw [HN.out]; exact hlt.2.1, hbr.room, hbr.recs⟩
    have HJF := Lib.hid (hJ9.set_ (J' := { J with safe := to }) 6 (.int .i64 (to : Int)) rfl rfl hJK)
    subst he0
    clear hbr hJK hJ9 hD2s hD2o
    go_wp2
    go_ret
    rw [HWD.out]
    exact ⟨rfl, p9, by rw [HN.out]; exact HJF.out⟩
  · rw [if_neg he0] at HWD
    have hd0 : ((ew : Int) != 0) = true := by rw [bne_iff_ne]; omega
    have hJK : JOk { J with broken := true } D2 := ⟨hbr.area, hbr.l1, hbr.l2, hbr.ep, hbr.lf1, hbr.lf2, hbr.safe, hbr.room, hbr.recs⟩
    have HJF := Lib.hid (hJ9.set_ (J' := { J with broken := true }) 8 (.bool true) rfl rfl hJK)
    clear hbr hJK hJ9 hD2s hD2o he0
    go_wp2
    go_ret
    rw [HWD.out]
    exact ⟨rfl, p9, by rw [HN.out]; exact HJF.out⟩
end
end Go.Proofs.Ytcnhfbckaacalaa
