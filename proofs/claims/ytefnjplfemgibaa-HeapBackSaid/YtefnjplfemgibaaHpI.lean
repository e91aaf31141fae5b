/- Heap (layer 9): the walk of the walker's leaf. Written by hpgenh.py. -/
import Derived.Test.YtefnjplfemgibaaHpH
namespace Go.Proofs.Ytefnjplfemgibaa
open Go.RowKit
set_option linter.unusedVariables false

section
variable {w0 W W' : World} {pw : Nat} {Aw Aa Ar : Option Addr} {lw cw la ca lr cr : Nat} {ws : List Nat} {nm : List (List UInt8)}

set_option maxRecDepth 100000 in
set_option maxHeartbeats 2000000 in
theorem leaf0_v {left : Int} (hB : Blk W pw 79 (WC Aw lw cw Aa la ca Ar lr cr left 0)) (n : Nat) (hn : n < 2305843009213693952) : Calls Try.prog 69 #[.pointer (some ⟨pw, 0, none⟩), .int .u64 (n : Int), .int .i64 0] W (LeafEnds pw W (leafP nm n 0)) := by
  unfold WC at *
  have HB := Lib.hid hB
  clear hB
  obtain ⟨g, hg⟩ : ∃ g, W.heap.size = g := ⟨_, rfl⟩
  have HG := Lib.hid hg
  go_enter Try.func69, Try.ntmps69
  go_upto_region 1 with (fail)
  refine wp_world (fun V => Below W.heap.size W V ∧ Blk V g 37 #[.int .i64 0, .int .i64 0, .string ⟨#[]⟩, .slice none 0 0]) ⟨below_alloc _ _, by rw [← HG.out]; exact Blk.new _ _ _⟩ ?_
  rintro V ⟨hb, hk⟩
  have HK := Lib.hid hk
  have HBL := Lib.hid hb
  have HB := Lib.hid (HB.out.keep hb)
  clear hb hk hg
  obtain ⟨v, hv⟩ : ∃ v : Int, wrap64 ((n : Int) * 8) / 8 = v := ⟨_, rfl⟩
  have hvd : v = if (n : Int) < 1152921504606846976 then (n : Int) else (n : Int) - 2305843009213693952 := by rw [← hv]; unfold wrap64; split <;> omega
  have HV := Lib.hid hv
  have HVD := Lib.hid hvd
  clear hv hvd
  go_upto_region 4 with (fail)
  rw [HV.out]
  by_cases h1 : -576460752303423488 ≤ v
  · by_cases h2 : v ≤ 576460752303423487
    · have d1 : decide (-576460752303423488 ≤ v) = true := by simpa using h1
      have d2 : decide (v ≤ 576460752303423487) = true := by simpa using h2
      have HE := Lib.hid (show leafP nm n 0 = some (tI v) from by have h9 := HVD.out; unfold leafP; rw [if_pos rfl]; split at h9 <;> (subst h9; first | (rw [if_pos (by omega)]) | (rw [if_neg (by omega), if_pos (by omega)]) | omega))
      clear HV HVD
      go_wp2_with (go_at_call 92; refine (pint_v v V).mono ?_; rintro e V2 ⟨rfl, hb2⟩; have HK := Lib.hid (HK.out.keep hb2); have HBL := Lib.hid (below_step HBL.out hb2); have z0 := HK.out.cell 0; have z1 := HK.out.cell 1; have z2 := HK.out.cell 2; have z3 := HK.out.cell 3; have zf0 := HK.out.frozen 0; have zf1 := HK.out.frozen 1; have zf2 := HK.out.frozen 2; have zf3 := HK.out.frozen 3; clear hb2)
      have hB2 := HK.out.set4 (.int .i64 1) (.int .i64 (v)) (.string ⟨([] : List UInt8).toArray⟩) (.slice none 0 0)
      have y0 := hB2.cell 0
      have y1 := hB2.cell 1
      have y2 := hB2.cell 2
      have y3 := hB2.cell 3
      refine bodyPost_ret (v := .tuple #[.agg #[.int .i64 1, .int .i64 (v), .string ⟨([] : List UInt8).toArray⟩, .slice none 0 0], .bool true]) (by simp [results, Try.results69, go_sem, y0, y1, y2, y3]) rfl ?_
      have hfr := fr_set4 V2 g (.int .i64 1) (.int .i64 (v)) (.string ⟨([] : List UInt8).toArray⟩) (.slice none 0 0)
      exact ⟨1, v, [], by rw [HE.out]; rfl, by rw [HE.out]; exact fun t ht => (Option.some.inj ht).symm, HBL.out.trans (hfr.below HBL.out.size (fun k hk => by have := HG.out; omega))⟩
    · have d1 : decide (-576460752303423488 ≤ v) = true := by simpa using h1
      have d2 : decide (v ≤ 576460752303423487) = false := by simpa using h2
      have HE := Lib.hid (show leafP nm n 0 = none from by have h9 := HVD.out; unfold leafP; rw [if_pos rfl]; split at h9 <;> (first | (rw [if_neg (by omega), if_neg (by omega)]) | omega))
      clear HV HVD
      go_wp2_with (go_at_call 92; refine (pint_v v V).mono ?_; rintro e V2 ⟨rfl, hb2⟩; have HK := Lib.hid (HK.out.keep hb2); have HBL := Lib.hid (below_step HBL.out hb2); have z0 := HK.out.cell 0; have z1 := HK.out.cell 1; have z2 := HK.out.cell 2; have z3 := HK.out.cell 3; have zf0 := HK.out.frozen 0; have zf1 := HK.out.frozen 1; have zf2 := HK.out.frozen 2; have zf3 := HK.out.frozen 3; clear hb2)
      have hB2 := HK.out.set4 (.int .i64 1) (.int .i64 (v)) (.string ⟨([] : List UInt8).toArray⟩) (.slice none 0 0)
      have y0 := hB2.cell 0
      have y1 := hB2.cell 1
      have y2 := hB2.cell 2
      have y3 := hB2.cell 3
      refine bodyPost_ret (v := .tuple #[.agg #[.int .i64 1, .int .i64 (v), .string ⟨([] : List UInt8).toArray⟩, .slice none 0 0], .bool false]) (by simp [results, Try.results69, go_sem, y0, y1, y2, y3]) rfl ?_
      have hfr := fr_set4 V2 g (.int .i64 1) (.int .i64 (v)) (.string ⟨([] : List UInt8).toArray⟩) (.slice none 0 0)
      exact ⟨1, v, [], by rw [HE.out]; rfl, by rw [HE.out]; exact fun t ht => (by cases ht), HBL.out.trans (hfr.below HBL.out.size (fun k hk => by have := HG.out; omega))⟩
  · have d1 : decide (-576460752303423488 ≤ v) = false := by simpa using h1
    have HE := Lib.hid (show leafP nm n 0 = none from by have h9 := HVD.out; unfold leafP; rw [if_pos rfl]; split at h9 <;> (first | (rw [if_neg (by omega), if_neg (by omega)]) | omega))
    clear HV HVD
    go_wp2_with (go_at_call 92; refine (pint_v v V).mono ?_; rintro e V2 ⟨rfl, hb2⟩; have HK := Lib.hid (HK.out.keep hb2); have HBL := Lib.hid (below_step HBL.out hb2); have z0 := HK.out.cell 0; have z1 := HK.out.cell 1; have z2 := HK.out.cell 2; have z3 := HK.out.cell 3; have zf0 := HK.out.frozen 0; have zf1 := HK.out.frozen 1; have zf2 := HK.out.frozen 2; have zf3 := HK.out.frozen 3; clear hb2)
    have hB2 := HK.out.set4 (.int .i64 1) (.int .i64 (v)) (.string ⟨([] : List UInt8).toArray⟩) (.slice none 0 0)
    have y0 := hB2.cell 0
    have y1 := hB2.cell 1
    have y2 := hB2.cell 2
    have y3 := hB2.cell 3
    refine bodyPost_ret (v := .tuple #[.agg #[.int .i64 1, .int .i64 (v), .string ⟨([] : List UInt8).toArray⟩, .slice none 0 0], .bool false]) (by simp [results, Try.results69, go_sem, y0, y1, y2, y3]) rfl ?_
    have hfr := fr_set4 V2 g (.int .i64 1) (.int .i64 (v)) (.string ⟨([] : List UInt8).toArray⟩) (.slice none 0 0)
    exact ⟨1, v, [], by rw [HE.out]; rfl, by rw [HE.out]; exact fun t ht => (by cases ht), HBL.out.trans (hfr.below HBL.out.size (fun k hk => by have := HG.out; omega))⟩

set_option maxRecDepth 100000 in
set_option maxHeartbeats 2000000 in
theorem leaf1_v {left : Int} (hB : Blk W pw 79 (WC Aw lw cw Aa la ca Ar lr cr left 0)) (n : Nat) (hn : n < 2305843009213693952) (hN : RdC W Aa (nm.map hv)) (hl : nm.length = la) (hla : la ≤ 100000) : Calls Try.prog 69 #[.pointer (some ⟨pw, 0, none⟩), .int .u64 (n : Int), .int .i64 1] W (LeafEnds pw W (leafP nm n 1)) := by
  have HN := Lib.hid hN
  have HL := Lib.hid hl
  clear hN hl
  unfold WC at *
  have HB := Lib.hid hB
  clear hB
  obtain ⟨g, hg⟩ : ∃ g, W.heap.size = g := ⟨_, rfl⟩
  have HG := Lib.hid hg
  go_enter Try.func69, Try.ntmps69
  go_upto_region 1 with (fail)
  refine wp_world (fun V => Below W.heap.size W V ∧ Blk V g 37 #[.int .i64 0, .int .i64 0, .string ⟨#[]⟩, .slice none 0 0]) ⟨below_alloc _ _, by rw [← HG.out]; exact Blk.new _ _ _⟩ ?_
  rintro V ⟨hb, hk⟩
  have HK := Lib.hid hk
  have HBL := Lib.hid hb
  have HB := Lib.hid (HB.out.keep hb)
  clear hb hk hg
  have x1 := HB.out.cell 1
  have HNV := Lib.hid (HN.out.below HBL.out)
  by_cases hlt : n < la
  · have hk : n < nm.length := by rw [HL.out]; exact hlt
    obtain ⟨s, hs⟩ : ∃ s, nm[n] = s := ⟨_, rfl⟩
    have hq : nm[n]? = some s := by rw [← hs]; exact List.getElem?_eq_getElem hk
    obtain ⟨b, off, rfl, hc⟩ := HNV.out.at_ (j := n) (v := hv s) (by simp [hq])
    unfold hv at hc
    have HQ := Lib.hid hq
    have d1 : decide ((la : Int) ≤ (n : Int)) = false := by simp; omega
    have q1 : (0 : Int) ≤ (n : Int) := by omega
    have q2 : (n : Int) < (la : Int) := by omega
    clear hk hs hq
    by_cases h1 : s = []
    · subst h1
      have HE := Lib.hid (show leafP nm n 1 = none from by unfold leafP; rw [if_neg (by decide), if_pos rfl, HQ.out]; simp)
      go_wp2_with (go_at_call 93; refine (patom_v [] V).mono ?_; rintro e V2 ⟨rfl, hb2⟩; have HK := Lib.hid (HK.out.keep hb2); have HBL := Lib.hid (below_step HBL.out hb2); have z0 := HK.out.cell 0; have z1 := HK.out.cell 1; have z2 := HK.out.cell 2; have z3 := HK.out.cell 3; have zf0 := HK.out.frozen 0; have zf1 := HK.out.frozen 1; have zf2 := HK.out.frozen 2; have zf3 := HK.out.frozen 3; clear hb2)
      have hB2 := HK.out.set4 (.int .i64 2) (.int .i64 (0)) (.string ⟨([] : List UInt8).toArray⟩) (.slice none 0 0)
      have y0 := hB2.cell 0
      have y1 := hB2.cell 1
      have y2 := hB2.cell 2
      have y3 := hB2.cell 3
      refine bodyPost_ret (v := .tuple #[.agg #[.int .i64 2, .int .i64 (0), .string ⟨([] : List UInt8).toArray⟩, .slice none 0 0], .bool false]) (by simp [results, Try.results69, go_sem, y0, y1, y2, y3]) rfl ?_
      have hfr := fr_set4 V2 g (.int .i64 2) (.int .i64 (0)) (.string ⟨([] : List UInt8).toArray⟩) (.slice none 0 0)
      exact ⟨2, 0, [], by rw [HE.out]; rfl, by rw [HE.out]; exact fun t ht => (by cases ht), HBL.out.trans (hfr.below HBL.out.size (fun k hk => by have := HG.out; omega))⟩
    · have d0 : s.isEmpty = false := by simp [h1]
      by_cases h2 : s.length ≤ 255
      · have d2 : decide ((s.length : Int) ≤ 255) = true := by simp; omega
        have HE := Lib.hid (show leafP nm n 1 = some (tA s) from by unfold leafP; rw [if_neg (by decide), if_pos rfl, HQ.out]; simp only; rw [if_pos ⟨h1, h2⟩])
        go_wp2_with (go_at_call 93; refine (patom_v s V).mono ?_; rintro e V2 ⟨rfl, hb2⟩; have HK := Lib.hid (HK.out.keep hb2); have HBL := Lib.hid (below_step HBL.out hb2); have z0 := HK.out.cell 0; have z1 := HK.out.cell 1; have z2 := HK.out.cell 2; have z3 := HK.out.cell 3; have zf0 := HK.out.frozen 0; have zf1 := HK.out.frozen 1; have zf2 := HK.out.frozen 2; have zf3 := HK.out.frozen 3; clear hb2)
        have hB2 := HK.out.set4 (.int .i64 2) (.int .i64 (0)) (.string ⟨(s : List UInt8).toArray⟩) (.slice none 0 0)
        have y0 := hB2.cell 0
        have y1 := hB2.cell 1
        have y2 := hB2.cell 2
        have y3 := hB2.cell 3
        refine bodyPost_ret (v := .tuple #[.agg #[.int .i64 2, .int .i64 (0), .string ⟨(s : List UInt8).toArray⟩, .slice none 0 0], .bool true]) (by simp [results, Try.results69, go_sem, y0, y1, y2, y3]) rfl ?_
        have hfr := fr_set4 V2 g (.int .i64 2) (.int .i64 (0)) (.string ⟨(s : List UInt8).toArray⟩) (.slice none 0 0)
        exact ⟨2, 0, s, by rw [HE.out]; rfl, by rw [HE.out]; exact fun t ht => (Option.some.inj ht).symm, HBL.out.trans (hfr.below HBL.out.size (fun k hk => by have := HG.out; omega))⟩
      · have d2 : decide ((s.length : Int) ≤ 255) = false := by simp; omega
        have HE := Lib.hid (show leafP nm n 1 = none from by unfold leafP; rw [if_neg (by decide), if_pos rfl, HQ.out]; simp only; rw [if_neg (fun h => h2 h.2)])
        go_wp2_with (go_at_call 93; refine (patom_v s V).mono ?_; rintro e V2 ⟨rfl, hb2⟩; have HK := Lib.hid (HK.out.keep hb2); have HBL := Lib.hid (below_step HBL.out hb2); have z0 := HK.out.cell 0; have z1 := HK.out.cell 1; have z2 := HK.out.cell 2; have z3 := HK.out.cell 3; have zf0 := HK.out.frozen 0; have zf1 := HK.out.frozen 1; have zf2 := HK.out.frozen 2; have zf3 := HK.out.frozen 3; clear hb2)
        have hB2 := HK.out.set4 (.int .i64 2) (.int .i64 (0)) (.string ⟨(s : List UInt8).toArray⟩) (.slice none 0 0)
        have y0 := hB2.cell 0
        have y1 := hB2.cell 1
        have y2 := hB2.cell 2
        have y3 := hB2.cell 3
        refine bodyPost_ret (v := .tuple #[.agg #[.int .i64 2, .int .i64 (0), .string ⟨(s : List UInt8).toArray⟩, .slice none 0 0], .bool false]) (by simp [results, Try.results69, go_sem, y0, y1, y2, y3]) rfl ?_
        have hfr := fr_set4 V2 g (.int .i64 2) (.int .i64 (0)) (.string ⟨(s : List UInt8).toArray⟩) (.slice none 0 0)
        exact ⟨2, 0, s, by rw [HE.out]; rfl, by rw [HE.out]; exact fun t ht => (by cases ht), HBL.out.trans (hfr.below HBL.out.size (fun k hk => by have := HG.out; omega))⟩
  · have d1 : decide ((la : Int) ≤ (n : Int)) = true := by simp; omega
    have HE := Lib.hid (show leafP nm n 1 = none from by unfold leafP; rw [if_neg (by decide), if_pos rfl, List.getElem?_eq_none (by rw [HL.out]; omega)])
    have z0 := HK.out.cell 0
    have z1 := HK.out.cell 1
    have z2 := HK.out.cell 2
    have z3 := HK.out.cell 3
    have zf0 := HK.out.frozen 0
    have zf1 := HK.out.frozen 1
    have zf2 := HK.out.frozen 2
    have zf3 := HK.out.frozen 3
    go_wp2
    have hB2 := HK.out.set4 (.int .i64 0) (.int .i64 (0)) (.string ⟨([] : List UInt8).toArray⟩) (.slice none 0 0)
    have y0 := hB2.cell 0
    have y1 := hB2.cell 1
    have y2 := hB2.cell 2
    have y3 := hB2.cell 3
    refine bodyPost_ret (v := .tuple #[.agg #[.int .i64 0, .int .i64 (0), .string ⟨([] : List UInt8).toArray⟩, .slice none 0 0], .bool false]) (by simp [results, Try.results69, go_sem, y0, y1, y2, y3]) rfl ?_
    have hfr := fr_set4 V g (.int .i64 0) (.int .i64 (0)) (.string ⟨([] : List UInt8).toArray⟩) (.slice none 0 0)
    exact ⟨0, 0, [], by rw [HE.out]; rfl, by rw [HE.out]; exact fun t ht => (by cases ht), HBL.out.trans (hfr.below HBL.out.size (fun k hk => by have := HG.out; omega))⟩

set_option maxRecDepth 100000 in
set_option maxHeartbeats 2000000 in
theorem leaf2_v {left : Int} (hB : Blk W pw 79 (WC Aw lw cw Aa la ca Ar lr cr left 0)) (n : Nat) (hn : n < 2305843009213693952) : Calls Try.prog 69 #[.pointer (some ⟨pw, 0, none⟩), .int .u64 (n : Int), .int .i64 2] W (LeafEnds pw W (leafP nm n 2)) := by
  unfold WC at *
  have HB := Lib.hid hB
  clear hB
  obtain ⟨g, hg⟩ : ∃ g, W.heap.size = g := ⟨_, rfl⟩
  have HG := Lib.hid hg
  go_enter Try.func69, Try.ntmps69
  go_upto_region 1 with (fail)
  refine wp_world (fun V => Below W.heap.size W V ∧ Blk V g 37 #[.int .i64 0, .int .i64 0, .string ⟨#[]⟩, .slice none 0 0]) ⟨below_alloc _ _, by rw [← HG.out]; exact Blk.new _ _ _⟩ ?_
  rintro V ⟨hb, hk⟩
  have HK := Lib.hid hk
  have HBL := Lib.hid hb
  have HB := Lib.hid (HB.out.keep hb)
  clear hb hk hg
  by_cases h1 : n ≤ 576460752303423487
  · have d1 : decide ((n : Int) ≤ 576460752303423487) = true := by simp; omega
    have HE := Lib.hid (show leafP nm n 2 = some (.mk 5 n [] []) from by unfold leafP; rw [if_neg (by decide), if_neg (by decide), if_pos rfl, if_pos h1])
    go_wp2_with (go_at_call 94; refine (ppid_v (n : Int) V).mono ?_; rintro e V2 ⟨rfl, hb2⟩; have HK := Lib.hid (HK.out.keep hb2); have HBL := Lib.hid (below_step HBL.out hb2); have z0 := HK.out.cell 0; have z1 := HK.out.cell 1; have z2 := HK.out.cell 2; have z3 := HK.out.cell 3; have zf0 := HK.out.frozen 0; have zf1 := HK.out.frozen 1; have zf2 := HK.out.frozen 2; have zf3 := HK.out.frozen 3; clear hb2)
    have hB2 := HK.out.set4 (.int .i64 5) (.int .i64 ((n : Int))) (.string ⟨([] : List UInt8).toArray⟩) (.slice none 0 0)
    have y0 := hB2.cell 0
    have y1 := hB2.cell 1
    have y2 := hB2.cell 2
    have y3 := hB2.cell 3
    refine bodyPost_ret (v := .tuple #[.agg #[.int .i64 5, .int .i64 ((n : Int)), .string ⟨([] : List UInt8).toArray⟩, .slice none 0 0], .bool true]) (by simp [results, Try.results69, go_sem, y0, y1, y2, y3]) rfl ?_
    have hfr := fr_set4 V2 g (.int .i64 5) (.int .i64 ((n : Int))) (.string ⟨([] : List UInt8).toArray⟩) (.slice none 0 0)
    exact ⟨5, (n : Int), [], by rw [HE.out]; rfl, by rw [HE.out]; exact fun t ht => (Option.some.inj ht).symm, HBL.out.trans (hfr.below HBL.out.size (fun k hk => by have := HG.out; omega))⟩
  · have d1 : decide ((n : Int) ≤ 576460752303423487) = false := by simp; omega
    have HE := Lib.hid (show leafP nm n 2 = none from by unfold leafP; rw [if_neg (by decide), if_neg (by decide), if_pos rfl, if_neg h1])
    go_wp2_with (go_at_call 94; refine (ppid_v (n : Int) V).mono ?_; rintro e V2 ⟨rfl, hb2⟩; have HK := Lib.hid (HK.out.keep hb2); have HBL := Lib.hid (below_step HBL.out hb2); have z0 := HK.out.cell 0; have z1 := HK.out.cell 1; have z2 := HK.out.cell 2; have z3 := HK.out.cell 3; have zf0 := HK.out.frozen 0; have zf1 := HK.out.frozen 1; have zf2 := HK.out.frozen 2; have zf3 := HK.out.frozen 3; clear hb2)
    have hB2 := HK.out.set4 (.int .i64 5) (.int .i64 ((n : Int))) (.string ⟨([] : List UInt8).toArray⟩) (.slice none 0 0)
    have y0 := hB2.cell 0
    have y1 := hB2.cell 1
    have y2 := hB2.cell 2
    have y3 := hB2.cell 3
    refine bodyPost_ret (v := .tuple #[.agg #[.int .i64 5, .int .i64 ((n : Int)), .string ⟨([] : List UInt8).toArray⟩, .slice none 0 0], .bool false]) (by simp [results, Try.results69, go_sem, y0, y1, y2, y3]) rfl ?_
    have hfr := fr_set4 V2 g (.int .i64 5) (.int .i64 ((n : Int))) (.string ⟨([] : List UInt8).toArray⟩) (.slice none 0 0)
    exact ⟨5, (n : Int), [], by rw [HE.out]; rfl, by rw [HE.out]; exact fun t ht => (by cases ht), HBL.out.trans (hfr.below HBL.out.size (fun k hk => by have := HG.out; omega))⟩

set_option maxRecDepth 100000 in
set_option maxHeartbeats 2000000 in
theorem leaf3_v {left : Int} (hB : Blk W pw 79 (WC Aw lw cw Aa la ca Ar lr cr left 0)) (n : Nat) (hn : n < 2305843009213693952) : Calls Try.prog 69 #[.pointer (some ⟨pw, 0, none⟩), .int .u64 (n : Int), .int .i64 3] W (LeafEnds pw W (leafP nm n 3)) := by
  unfold WC at *
  have HB := Lib.hid hB
  clear hB
  obtain ⟨g, hg⟩ : ∃ g, W.heap.size = g := ⟨_, rfl⟩
  have HG := Lib.hid hg
  go_enter Try.func69, Try.ntmps69
  go_upto_region 1 with (fail)
  refine wp_world (fun V => Below W.heap.size W V ∧ Blk V g 37 #[.int .i64 0, .int .i64 0, .string ⟨#[]⟩, .slice none 0 0]) ⟨below_alloc _ _, by rw [← HG.out]; exact Blk.new _ _ _⟩ ?_
  rintro V ⟨hb, hk⟩
  have HK := Lib.hid hk
  have HBL := Lib.hid hb
  have HB := Lib.hid (HB.out.keep hb)
  clear hb hk hg
  by_cases h1 : n ≤ 576460752303423487
  · have d1 : decide ((n : Int) ≤ 576460752303423487) = true := by simp; omega
    have HE := Lib.hid (show leafP nm n 3 = some (.mk 3 n [] []) from by unfold leafP; rw [if_neg (by decide), if_neg (by decide), if_neg (by decide), if_pos rfl, if_pos h1])
    go_wp2_with (go_at_call 95; refine (pref_v (n : Int) V).mono ?_; rintro e V2 ⟨rfl, hb2⟩; have HK := Lib.hid (HK.out.keep hb2); have HBL := Lib.hid (below_step HBL.out hb2); have z0 := HK.out.cell 0; have z1 := HK.out.cell 1; have z2 := HK.out.cell 2; have z3 := HK.out.cell 3; have zf0 := HK.out.frozen 0; have zf1 := HK.out.frozen 1; have zf2 := HK.out.frozen 2; have zf3 := HK.out.frozen 3; clear hb2)
    have hB2 := HK.out.set4 (.int .i64 3) (.int .i64 ((n : Int))) (.string ⟨([] : List UInt8).toArray⟩) (.slice none 0 0)
    have y0 := hB2.cell 0
    have y1 := hB2.cell 1
    have y2 := hB2.cell 2
    have y3 := hB2.cell 3
    refine bodyPost_ret (v := .tuple #[.agg #[.int .i64 3, .int .i64 ((n : Int)), .string ⟨([] : List UInt8).toArray⟩, .slice none 0 0], .bool true]) (by simp [results, Try.results69, go_sem, y0, y1, y2, y3]) rfl ?_
    have hfr := fr_set4 V2 g (.int .i64 3) (.int .i64 ((n : Int))) (.string ⟨([] : List UInt8).toArray⟩) (.slice none 0 0)
    exact ⟨3, (n : Int), [], by rw [HE.out]; rfl, by rw [HE.out]; exact fun t ht => (Option.some.inj ht).symm, HBL.out.trans (hfr.below HBL.out.size (fun k hk => by have := HG.out; omega))⟩
  · have d1 : decide ((n : Int) ≤ 576460752303423487) = false := by simp; omega
    have HE := Lib.hid (show leafP nm n 3 = none from by unfold leafP; rw [if_neg (by decide), if_neg (by decide), if_neg (by decide), if_pos rfl, if_neg h1])
    go_wp2_with (go_at_call 95; refine (pref_v (n : Int) V).mono ?_; rintro e V2 ⟨rfl, hb2⟩; have HK := Lib.hid (HK.out.keep hb2); have HBL := Lib.hid (below_step HBL.out hb2); have z0 := HK.out.cell 0; have z1 := HK.out.cell 1; have z2 := HK.out.cell 2; have z3 := HK.out.cell 3; have zf0 := HK.out.frozen 0; have zf1 := HK.out.frozen 1; have zf2 := HK.out.frozen 2; have zf3 := HK.out.frozen 3; clear hb2)
    have hB2 := HK.out.set4 (.int .i64 3) (.int .i64 ((n : Int))) (.string ⟨([] : List UInt8).toArray⟩) (.slice none 0 0)
    have y0 := hB2.cell 0
    have y1 := hB2.cell 1
    have y2 := hB2.cell 2
    have y3 := hB2.cell 3
    refine bodyPost_ret (v := .tuple #[.agg #[.int .i64 3, .int .i64 ((n : Int)), .string ⟨([] : List UInt8).toArray⟩, .slice none 0 0], .bool false]) (by simp [results, Try.results69, go_sem, y0, y1, y2, y3]) rfl ?_
    have hfr := fr_set4 V2 g (.int .i64 3) (.int .i64 ((n : Int))) (.string ⟨([] : List UInt8).toArray⟩) (.slice none 0 0)
    exact ⟨3, (n : Int), [], by rw [HE.out]; rfl, by rw [HE.out]; exact fun t ht => (by cases ht), HBL.out.trans (hfr.below HBL.out.size (fun k hk => by have := HG.out; omega))⟩

set_option maxRecDepth 100000 in
set_option maxHeartbeats 2000000 in
theorem leaf4_v {left : Int} (hB : Blk W pw 79 (WC Aw lw cw Aa la ca Ar lr cr left 0)) (n : Nat) (hn : n < 2305843009213693952) : Calls Try.prog 69 #[.pointer (some ⟨pw, 0, none⟩), .int .u64 (n : Int), .int .i64 4] W (LeafEnds pw W (leafP nm n 4)) := by
  unfold WC at *
  have HB := Lib.hid hB
  clear hB
  obtain ⟨g, hg⟩ : ∃ g, W.heap.size = g := ⟨_, rfl⟩
  have HG := Lib.hid hg
  go_enter Try.func69, Try.ntmps69
  go_upto_region 1 with (fail)
  refine wp_world (fun V => Below W.heap.size W V ∧ Blk V g 37 #[.int .i64 0, .int .i64 0, .string ⟨#[]⟩, .slice none 0 0]) ⟨below_alloc _ _, by rw [← HG.out]; exact Blk.new _ _ _⟩ ?_
  rintro V ⟨hb, hk⟩
  have HK := Lib.hid hk
  have HBL := Lib.hid hb
  have HB := Lib.hid (HB.out.keep hb)
  clear hb hk hg
  by_cases h1 : n = 0
  · subst h1
    have HE := Lib.hid (show leafP nm 0 4 = some tN from rfl)
    go_wp2_with (go_at_call 96; refine (pnil_v V).mono ?_; rintro e V2 ⟨rfl, hb2⟩; have HK := Lib.hid (HK.out.keep hb2); have HBL := Lib.hid (below_step HBL.out hb2); have z0 := HK.out.cell 0; have z1 := HK.out.cell 1; have z2 := HK.out.cell 2; have z3 := HK.out.cell 3; have zf0 := HK.out.frozen 0; have zf1 := HK.out.frozen 1; have zf2 := HK.out.frozen 2; have zf3 := HK.out.frozen 3; clear hb2)
    have hB2 := HK.out.set4 (.int .i64 7) (.int .i64 (0)) (.string ⟨([] : List UInt8).toArray⟩) (.slice none 0 0)
    have y0 := hB2.cell 0
    have y1 := hB2.cell 1
    have y2 := hB2.cell 2
    have y3 := hB2.cell 3
    refine bodyPost_ret (v := .tuple #[.agg #[.int .i64 7, .int .i64 (0), .string ⟨([] : List UInt8).toArray⟩, .slice none 0 0], .bool true]) (by simp [results, Try.results69, go_sem, y0, y1, y2, y3]) rfl ?_
    have hfr := fr_set4 V2 g (.int .i64 7) (.int .i64 (0)) (.string ⟨([] : List UInt8).toArray⟩) (.slice none 0 0)
    exact ⟨7, 0, [], by rw [HE.out]; rfl, by rw [HE.out]; exact fun t ht => (Option.some.inj ht).symm, HBL.out.trans (hfr.below HBL.out.size (fun k hk => by have := HG.out; omega))⟩
  · have d1 : ((n : Int) == 0) = false := by simpa using h1
    have HE := Lib.hid (show leafP nm n 4 = none from by unfold leafP; rw [if_neg (by decide), if_neg (by decide), if_neg (by decide), if_neg (by decide), if_neg h1])
    go_wp2_with (go_at_call 96; refine (pnil_v V).mono ?_; rintro e V2 ⟨rfl, hb2⟩; have HK := Lib.hid (HK.out.keep hb2); have HBL := Lib.hid (below_step HBL.out hb2); have z0 := HK.out.cell 0; have z1 := HK.out.cell 1; have z2 := HK.out.cell 2; have z3 := HK.out.cell 3; have zf0 := HK.out.frozen 0; have zf1 := HK.out.frozen 1; have zf2 := HK.out.frozen 2; have zf3 := HK.out.frozen 3; clear hb2)
    have hB2 := HK.out.set4 (.int .i64 7) (.int .i64 (0)) (.string ⟨([] : List UInt8).toArray⟩) (.slice none 0 0)
    have y0 := hB2.cell 0
    have y1 := hB2.cell 1
    have y2 := hB2.cell 2
    have y3 := hB2.cell 3
    refine bodyPost_ret (v := .tuple #[.agg #[.int .i64 7, .int .i64 (0), .string ⟨([] : List UInt8).toArray⟩, .slice none 0 0], .bool false]) (by simp [results, Try.results69, go_sem, y0, y1, y2, y3]) rfl ?_
    have hfr := fr_set4 V2 g (.int .i64 7) (.int .i64 (0)) (.string ⟨([] : List UInt8).toArray⟩) (.slice none 0 0)
    exact ⟨7, 0, [], by rw [HE.out]; rfl, by rw [HE.out]; exact fun t ht => (by cases ht), HBL.out.trans (hfr.below HBL.out.size (fun k hk => by have := HG.out; omega))⟩

theorem wleaf_v {left : Int} (hB : Blk W pw 79 (WC Aw lw cw Aa la ca Ar lr cr left 0)) (hN : RdC W Aa (nm.map hv)) (hl : nm.length = la) (hla : la ≤ 100000) (n tag : Nat) (hn : n < 2305843009213693952) (ht : tag < 5) : Calls Try.prog 69 #[.pointer (some ⟨pw, 0, none⟩), .int .u64 (n : Int), .int .i64 (tag : Int)] W (LeafEnds pw W (leafP nm n tag)) := by
  match tag, ht with
  | 0, _ => exact leaf0_v hB n hn
  | 1, _ => exact leaf1_v hB n hn hN hl hla
  | 2, _ => exact leaf2_v hB n hn
  | 3, _ => exact leaf3_v hB n hn
  | 4, _ => exact leaf4_v hB n hn
end
end Go.Proofs.Ytefnjplfemgibaa
