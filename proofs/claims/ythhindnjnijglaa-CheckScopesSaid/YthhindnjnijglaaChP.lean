/- Layer 11: the walks of the document's clause and Parse at a text that is a program of one clause. -/
import Derived.Test.YthhindnjnijglaaPaS
import Derived.Test.YthhindnjnijglaaScI
import Derived.Test.YthhindnjnijglaaChG
import Derived.Test.YthhindnjnijglaaOrd
import Derived.Deep.RegionHeld3
namespace Go.Proofs.Ythhindnjnijglaa
open Go.RowKit
set_option linter.unusedVariables false

abbrev CB5 (W : World) (g : Nat) (v0 v1 v2 v3 v4 : Value) : Prop := Blk W g 67 #[v0, v1, v2, v3, v4]
theorem cex_world {Q : Exit → Act → World → Prop} {ex : Exit} {a : Act} {w : World} (F : World → Prop) (hF : F w) (h : ∀ w', F w' → Q ex a w') : Q ex a w := h w hF
section
variable {pb : Nat} {A : Option Addr} {c : Nat} {T : List Tok} {fin : Nat} {W : World}
set_option maxRecDepth 100000 in
set_option maxHeartbeats 4000000 in
theorem clause_any {at_ : Int} {t0 : Tok} {n : Nat} {r : CD × PS} (h : PAt pb A c T fin ⟨0, 0, at_⟩ W) (ht : T[0]? = some t0) (hk : t0.kind = 2) (hn : n ≤ 4611686018427387904) (hr : (lang T fin n).head 0 t0.text t0.at_ ⟨1, 0, at_⟩ = some r) :
    Calls Try.prog 25 #[.pointer (some ⟨pb, 0, none⟩)] W (CEnd pb A c T fin W r) := by
  have hlt : 0 < T.length := (List.getElem?_eq_some_iff.1 ht).1
  have hte : T[0] = t0 := (List.getElem?_eq_some_iff.1 ht).2
  have hlen := h.len
  have HPL : Hid (∀ V, PAt pb A c T fin ⟨0, 0, at_⟩ V → Calls Try.prog 20 #[.pointer (some ⟨pb, 0, none⟩)] V fun e w' => e = .returned (.int .i64 ((t0.at_ : Nat) : Int)) ∧ Below V.heap.size V w') := fun V hV => by
    have := place_any hV
    rw [show placeP T fin (⟨0, 0, at_⟩ : PS) = ((t0.at_ : Nat) : Int) by unfold placeP; simp only [ht]] at this
    exact this
  have HKD : Hid (∀ V, PAt pb A c T fin ⟨0, 0, at_⟩ V → Calls Try.prog 50 #[.pointer (some ⟨pb, 0, none⟩), .int .i64 2] V fun e w' => e = .returned (.bool true) ∧ Below V.heap.size V w') := fun V hV => by
    have := kind_any hV 2
    rw [show kindP T 2 (⟨0, 0, at_⟩ : PS) = true by unfold kindP; simp [ht, hk]] at this
    exact this
  have HHD : Hid (∀ V, PAt pb A c T fin ⟨1, 0, at_⟩ V → Calls Try.prog 51 #[.pointer (some ⟨pb, 0, none⟩), .agg #[.slice none 0 0, .slice none 0 0, .slice none 0 0, .string ⟨t0.text.toArray⟩, .int .i64 t0.at_], .int .i64 0] V (CEnd pb A c T fin V r)) := fun V hV => (all_ok n).head 0 t0.text t0.at_ ⟨1, 0, at_⟩ V r (by simp only [deepB]; omega) hr hV
  have HP := Lib.hid h
  have HL := Lib.hid hlen
  obtain ⟨tl, htl⟩ : ∃ tl, T.length = tl := ⟨_, rfl⟩
  have HTL := Lib.hid htl
  clear h ht hk hr hlen
  go_enter Try.func25, Try.ntmps25
  go_upto_region 1 with (fail)
  refine wp_world (fun V => CB5 V W.heap.size (.slice none 0 0) (.slice none 0 0) (.slice none 0 0) (.string ⟨#[]⟩) (.int .i64 0) ∧ Below W.heap.size W V) ⟨Blk.new _ _ _, below_alloc _ _⟩ ?_
  rintro V0 ⟨hz, hb0⟩
  have HZ := Lib.hid hz
  have HB0 := Lib.hid hb0
  clear hz hb0
  go_upto_region 2 with (go_at_call 20; refine (HPL.out _ (HP.out.keep HB0.out)).mono ?_; rintro e V1 ⟨rfl, hb1⟩)
  obtain ⟨g, hg⟩ : ∃ g, V1.heap.size = g := ⟨_, rfl⟩
  rw [hg]
  have HG := Lib.hid (show W.heap.size < g by have h1 := HZ.out.lt; have h2 := hb1.size; omega)
  refine wp_world (fun V => CB5 V g (.slice none 0 0) (.slice none 0 0) (.slice none 0 0) (.string ⟨#[]⟩) (.int .i64 ((t0.at_ : Nat) : Int)) ∧ Below V0.heap.size V0 V) ⟨by rw [← hg]; exact Blk.new _ _ _, below_step hb1 (below_alloc _ _)⟩ ?_
  clear hg hb1
  rintro V2 ⟨hc, hb2⟩
  have HC := Lib.hid hc
  have HB2 := Lib.hid hb2
  clear hc hb2
  go_upto_region 5 with (go_at_call 50; refine (HKD.out _ (HP.out.keep (below_step HB0.out HB2.out))).mono ?_; rintro e V3 ⟨rfl, hb3⟩)
  refine wp_world (fun V => CB5 V W.heap.size (.slice none 0 0) (.slice none 0 0) (.slice none 0 0) (.string ⟨#[]⟩) (.int .i64 0) ∧ CB5 V g (.slice none 0 0) (.slice none 0 0) (.slice none 0 0) (.string ⟨#[]⟩) (.int .i64 ((t0.at_ : Nat) : Int)) ∧ PAt pb A c T fin ⟨0, 0, at_⟩ V ∧ Below W.heap.size W V) ⟨(HZ.out.keep HB2.out).keep hb3, HC.out.keep hb3, (HP.out.keep (below_step HB0.out HB2.out)).keep hb3, below_step (below_step HB0.out HB2.out) hb3⟩ ?_
  clear hb3 HZ HC HB0 HB2 HPL HKD
  rintro V4 ⟨hz, hc, hp, hb⟩
  have HZ := Lib.hid hz
  have HC := Lib.hid hc
  have HP4 := Lib.hid hp
  have HB4 := Lib.hid hb
  obtain ⟨b, o, hAe, hbl, t0', t1', t2', t3', t4'⟩ := hp.toks.at_ hlt
  have HA := Lib.hid hAe
  have HSC : Hid (∀ V, Below V4.heap.size V4 V → V.cell? ⟨pb, 0, none⟩ = some (.slice (some ⟨b, o, none⟩) tl c) ∧ V.cell? ⟨pb, 1, none⟩ = some (.int .i64 0) ∧ V.cell? ⟨b, o + 2, none⟩ = some (.string ⟨t0.text.toArray⟩) ∧ V.frozen? ⟨g, 3, none⟩ = false ∧ V.cell? ⟨g, 3, none⟩ = some (.string ⟨#[]⟩)) := fun V hV => by
    have h1 := (HP4.out.keep hV).cells
    have h2 := (hV.cell (World.block_lt_of_cell? V4 _ t2')).trans t2'
    rw [hte] at h2
    refine ⟨by have := h1.1; rw [HA.out, HTL.out] at this; exact this, h1.2.1, by simpa using h2, (HC.out.keep hV).frozen 3, (HC.out.keep hV).cell 3⟩
  have hcc : tl ≤ 16384 := by have := HL.out; omega
  have q2 : (0 : Int) < (tl : Int) := by omega
  have q3 : 0 < tl := by omega
  clear hz hc hp hb hAe t0' t1' t2' t3' t4' hbl hte htl hlt
  refine wp_region_W 12 (fun V => Below V4.heap.size V4 V) (by kernel_rfl) ?_ (fun hS0 => ?_)
  · exact (Below.refl _ _).drew
  (refine wpAnyW_take (i := 0) (v := ?_) rfl (by kernel_rfl) (by kernel_rfl) (by kernel_rfl) (by kernel_rfl) (fun _ _ _ h => h) (Or.inl ⟨by kernel_rfl, ?_⟩) (by assumption) ?_; rotate_left; focus (intro V9 hS9; go_simp; (try (with_reducible rfl)); done))
  try simp only [Act.put, List.getElem_toArray, List.getElem_cons_zero, List.setIfInBounds_toArray, List.set_cons_succ, List.set_cons_zero]
  (refine wpAnyW_take (i := 4) (v := ?_) rfl (by kernel_rfl) (by kernel_rfl) (by kernel_rfl) (by kernel_rfl) (fun _ _ _ h => h) (Or.inl ⟨by kernel_rfl, ?_⟩) (by assumption) ?_; rotate_left; focus (intro V9 hS9; go_simp; (try (with_reducible rfl)); done))
  try simp only [Act.put, List.getElem_toArray, List.getElem_cons_succ, List.getElem_cons_zero, List.setIfInBounds_toArray, List.set_cons_succ, List.set_cons_zero]
  (refine wpAnyW_take (i := 1) (v := ?_) rfl (by kernel_rfl) (by kernel_rfl) (by kernel_rfl) (by kernel_rfl) (fun _ _ _ h => h) (Or.inl ⟨by kernel_rfl, ?_⟩) (by assumption) ?_; rotate_left; focus (intro V9 hS9; obtain ⟨g0, g1, g2, g3, g4⟩ := HSC.out V9 hS9; go_simp; (try (with_reducible rfl)); done))
  try simp only [Act.put, List.getElem_toArray, List.getElem_cons_succ, List.getElem_cons_zero, List.setIfInBounds_toArray, List.set_cons_succ, List.set_cons_zero]
  (refine wpAnyW_take (i := 2) (v := ?_) rfl (by kernel_rfl) (by kernel_rfl) (by kernel_rfl) (by kernel_rfl) (fun _ _ _ h => h) (Or.inl ⟨by kernel_rfl, ?_⟩) (by assumption) ?_; rotate_left; focus (intro V9 hS9; obtain ⟨g0, g1, g2, g3, g4⟩ := HSC.out V9 hS9; go_simp; (try (with_reducible rfl)); done))
  try simp only [Act.put, List.getElem_toArray, List.getElem_cons_succ, List.getElem_cons_zero, List.setIfInBounds_toArray, List.set_cons_succ, List.set_cons_zero]
  (refine wpAnyW_take (i := 3) (v := ?_) rfl (by kernel_rfl) (by kernel_rfl) (by kernel_rfl) (by kernel_rfl) (fun _ _ _ h => h) (Or.inl ⟨by kernel_rfl, ?_⟩) (by assumption) ?_; rotate_left; focus (intro V9 hS9; obtain ⟨g0, g1, g2, g3, g4⟩ := HSC.out V9 hS9; go_simp; (try (with_reducible rfl)); done))
  try simp only [Act.put, List.getElem_toArray, List.getElem_cons_succ, List.getElem_cons_zero, List.setIfInBounds_toArray, List.set_cons_succ, List.set_cons_zero]
  (refine wpAnyW_take (i := 5) (v := ?_) rfl (by kernel_rfl) (by kernel_rfl) (by kernel_rfl) (by kernel_rfl) (fun _ _ _ h => h) (Or.inl ⟨by kernel_rfl, ?_⟩) (by assumption) ?_; rotate_left; focus (intro V9 hS9; obtain ⟨g0, g1, g2, g3, g4⟩ := HSC.out V9 hS9; go_simp; (try (with_reducible rfl)); done))
  try simp only [Act.put, List.getElem_toArray, List.getElem_cons_succ, List.getElem_cons_zero, List.setIfInBounds_toArray, List.set_cons_succ, List.set_cons_zero]
  (refine wpAnyW_take (i := 6) (v := ?_) rfl (by kernel_rfl) (by kernel_rfl) (by kernel_rfl) (by kernel_rfl) (fun _ _ _ h => h) (Or.inl ⟨by kernel_rfl, ?_⟩) (by assumption) ?_; rotate_left; focus (intro V9 hS9; obtain ⟨g0, g1, g2, g3, g4⟩ := HSC.out V9 hS9; go_simp; (try (with_reducible rfl)); done))
  try simp only [Act.put, List.getElem_toArray, List.getElem_cons_succ, List.getElem_cons_zero, List.setIfInBounds_toArray, List.set_cons_succ, List.set_cons_zero]
  (refine wpAnyW_take (i := 7) (v := ?_) rfl (by kernel_rfl) (by kernel_rfl) (by kernel_rfl) (by kernel_rfl) (fun _ _ _ h => h) (Or.inl ⟨by kernel_rfl, ?_⟩) (by assumption) ?_; rotate_left; focus (intro V9 hS9; obtain ⟨g0, g1, g2, g3, g4⟩ := HSC.out V9 hS9; go_simp; (try (with_reducible rfl)); done))
  try simp only [Act.put, List.getElem_toArray, List.getElem_cons_succ, List.getElem_cons_zero, List.setIfInBounds_toArray, List.set_cons_succ, List.set_cons_zero]
  (refine wpAnyW_take (i := 8) (v := ?_) rfl (by kernel_rfl) (by kernel_rfl) (by kernel_rfl) (by kernel_rfl) (fun _ _ _ h => h) (Or.inl ⟨by kernel_rfl, ?_⟩) (by assumption) ?_; rotate_left; focus (intro V9 hS9; obtain ⟨g0, g1, g2, g3, g4⟩ := HSC.out V9 hS9; go_simp; (try (with_reducible rfl)); done))
  try simp only [Act.put, List.getElem_toArray, List.getElem_cons_succ, List.getElem_cons_zero, List.setIfInBounds_toArray, List.set_cons_succ, List.set_cons_zero]
  (refine wpAnyW_take (i := 9) (v := ?_) rfl (by kernel_rfl) (by kernel_rfl) (by kernel_rfl) (by kernel_rfl) (fun _ _ _ h => h) (Or.inl ⟨by kernel_rfl, ?_⟩) (by assumption) ?_; rotate_left; focus (intro V9 hS9; obtain ⟨g0, g1, g2, g3, g4⟩ := HSC.out V9 hS9; go_simp; (try (with_reducible rfl)); done))
  try simp only [Act.put, List.getElem_toArray, List.getElem_cons_succ, List.getElem_cons_zero, List.setIfInBounds_toArray, List.set_cons_succ, List.set_cons_zero]
  (refine wpAnyW_take (i := 10) (v := ?_) rfl (by kernel_rfl) (by kernel_rfl) (by kernel_rfl) (by kernel_rfl) (fun _ _ _ h => h) (Or.inl ⟨by kernel_rfl, ?_⟩) (by assumption) ?_; rotate_left; focus (intro V9 hS9; obtain ⟨g0, g1, g2, g3, g4⟩ := HSC.out V9 hS9; go_simp; (try (with_reducible rfl)); done))
  try simp only [Act.put, List.getElem_toArray, List.getElem_cons_succ, List.getElem_cons_zero, List.setIfInBounds_toArray, List.set_cons_succ, List.set_cons_zero]
  (refine wpAnyW_take (i := 11) (v := ?_) rfl (by kernel_rfl) (by kernel_rfl) (by kernel_rfl) (by kernel_rfl) (fun _ _ _ h => h) (Or.inl ⟨by kernel_rfl, ?_⟩) (by assumption) ?_; rotate_left; focus (intro V9 hS9; go_simp; (try (with_reducible rfl)); done))
  try simp only [Act.put, List.getElem_toArray, List.getElem_cons_succ, List.getElem_cons_zero, List.setIfInBounds_toArray, List.set_cons_succ, List.set_cons_zero]
  refine wpAnyW_ready (rs := [12]) (by kernel_rfl) (by simp) ?_
  refine AllReadyW.consE rfl (by kernel_rfl) (fun K hK => ?_) AllReadyW.nil
  obtain ⟨g0, g1, g2, g3, g4⟩ := HSC.out V4.drew (Below.refl _ _).drew
  go_simp
  refine hK.out _ _ ?_
  clear hK K g0 g1 g2 g3 g4
  refine wpAnyW_done (by kernel_rfl) ?_ _
  have hpbl := HP.out.obj.lt
  have hgW := HG.out
  refine cex_world (fun V => CB5 V W.heap.size (.slice none 0 0) (.slice none 0 0) (.slice none 0 0) (.string ⟨#[]⟩) (.int .i64 0) ∧ CB5 V g (.slice none 0 0) (.slice none 0 0) (.slice none 0 0) (.string ⟨t0.text.toArray⟩) (.int .i64 ((t0.at_ : Nat) : Int)) ∧ PAt pb A c T fin ⟨0, 0, at_⟩ V ∧ Below W.heap.size W V) ?_ ?_
  · have hf : Fr (fun k => k = g) V4 (V4.drew.setCell ⟨g, 3, none⟩ (.string ⟨t0.text.toArray⟩)) := (Fr.refl (fun k => k = g) V4).drew.same (Fr.setCell (fun k => k = g) V4.drew (p := ⟨g, 3, none⟩) (fun _ => rfl) _)
    exact ⟨hf.blk HZ.out (by omega), ((Fr.refl (fun _ => False) V4).drew.blk HC.out (fun h => h)).set_ 3 _, HP4.out.far hf (by omega) (fun b' o' e => by have := HP4.out.apart b' o' e; omega), HB4.out.trans (hf.below HB4.out.size (fun k hk => by omega))⟩
  clear HZ HC HP4 HB4 HSC
  rintro V5 ⟨hz, hc, hp, hb⟩
  have HZ := Lib.hid hz
  have HC := Lib.hid hc
  have HP5 := Lib.hid hp
  have HB5 := Lib.hid hb
  have k1 := hp.cells.2.1
  have f1 := hp.obj.frozen 1
  clear hz hc hp hb
  go_upto_region 7 with (fail)
  refine wp_world (fun V => CB5 V W.heap.size (.slice none 0 0) (.slice none 0 0) (.slice none 0 0) (.string ⟨#[]⟩) (.int .i64 0) ∧ CB5 V g (.slice none 0 0) (.slice none 0 0) (.slice none 0 0) (.string ⟨t0.text.toArray⟩) (.int .i64 ((t0.at_ : Nat) : Int)) ∧ PAt pb A c T fin ⟨1, 0, at_⟩ V ∧ Fr (fun k => k = pb) W V) ?_ ?_
  · obtain ⟨s1, s2⟩ := HP5.out.setI (by have := HTL.out; simp only; omega) (v := .int .i64 1) rfl
    exact ⟨s2.blk HZ.out (by omega), s2.blk HC.out (by omega), s1, (Fr.of_below HB5.out _).same s2⟩
  clear HZ HC HP5 HB5 k1 f1
  rintro V6 ⟨hz, hc, hp, hf⟩
  have HZ := Lib.hid hz
  have HP6 := Lib.hid hp
  have HF6 := Lib.hid hf
  have c0 := hc.cell 0
  have c1 := hc.cell 1
  have c2 := hc.cell 2
  have c3 := hc.cell 3
  have c4 := hc.cell 4
  clear hz hc hp hf
  go_wp2_with (go_at_call 51; refine (HHD.out _ HP6.out).mono ?_; rintro e V7 ⟨x, hx, rfl, hok, hp7, hf7⟩; have HX := Lib.hid hx; clear hx; have hz7 := hf7.blk HZ.out (show ¬ W.heap.size = pb by omega); have z0 := hz7.cell 0; have z1 := hz7.cell 1; have z2 := hz7.cell 2; have z3 := hz7.cell 3; have z4 := hz7.cell 4; have f0 := hz7.frozen 0; have f1 := hz7.frozen 1; have f2 := hz7.frozen 2; have f3 := hz7.frozen 3; have f4 := hz7.frozen 4)
  have hf9 := put5_fr V7 W.heap.size (.slice x.A x.t.patterns.length x.c) (.slice x.B x.t.guards.length x.d) (.slice x.C x.t.body.length x.e) (.string ⟨x.t.name.toArray⟩) (.int .i64 x.t.at_)
  have hz9 := put5_blk hz7 (.slice x.A x.t.patterns.length x.c) (.slice x.B x.t.guards.length x.d) (.slice x.C x.t.body.length x.e) (.string ⟨x.t.name.toArray⟩) (.int .i64 x.t.at_)
  have y0 := hz9.cell 0
  have y1 := hz9.cell 1
  have y2 := hz9.cell 2
  have y3 := hz9.cell 3
  have y4 := hz9.cell 4
  refine bodyPost_ret (v := .agg #[.slice x.A x.t.patterns.length x.c, .slice x.B x.t.guards.length x.d, .slice x.C x.t.body.length x.e, .string ⟨x.t.name.toArray⟩, .int .i64 x.t.at_]) (by simp [results, Try.results25, go_sem, y0, y1, y2, y3, y4]) rfl ?_
  have hs6 := HF6.out.size
  have hzl := HZ.out.lt
  exact ⟨x, HX.out, rfl, hok.move (.of_fr hf9 (fun k hk => by show k < V6.heap.size; omega) (fun k _ h => by show k < V6.heap.size; have h : k < W.heap.size := h; omega)), hp7.far hf9 (by omega) (fun b' o' e => by have := hp7.apart b' o' e; omega), (HF6.out.same hf7).trans hf9 (fun i hi e => by omega)⟩
end
end Go.Proofs.Ythhindnjnijglaa
