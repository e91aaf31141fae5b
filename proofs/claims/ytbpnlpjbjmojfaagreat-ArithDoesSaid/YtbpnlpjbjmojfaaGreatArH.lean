/- Arith (layer 14): the closure of order. Written by argenh.py. -/
import Derived.Test.YtbpnlpjbjmojfaaGreatArG
namespace Go.Proofs.YtbpnlpjbjmojfaaGreat
open Go.RowKit
set_option linter.unusedVariables false
section
variable {W V V' : World} {u u1 u2 : Value} {t t1 t2 : TV}
/-- Two boxes, the result's cell, a captured function. -/
structure OS (W : World) (p1 p2 p g gt : Nat) (gv : Value) (b1 b2 : Array Value) (V : World) : Prop where
  bel : Below W.heap.size W V
  x : Blk V p1 26 b1
  y : Blk V p2 26 b2
  z : ∃ a b c d, Blk V p 26 #[a, b, c, d]
  f : Blk V g gt #[gv]
theorem OS.keep {p1 p2 p g gt : Nat} {gv : Value} {b1 b2 : Array Value} (h : OS W p1 p2 p g gt gv b1 b2 V) (hb : Below V.heap.size V V') : OS W p1 p2 p g gt gv b1 b2 V' := by
  obtain ⟨a, b, c, d, hz⟩ := h.z
  exact ⟨below_step h.bel hb, h.x.keep hb, h.y.keep hb, ⟨a, b, c, d, hz.keep hb⟩, h.f.keep hb⟩
theorem OS.zlt {p1 p2 p g gt : Nat} {gv : Value} {b1 b2 : Array Value} (h : OS W p1 p2 p g gt gv b1 b2 V) : p < V.heap.size := by
  obtain ⟨a, b, c, d, hz⟩ := h.z
  exact hz.lt
theorem OS.cells {p1 p2 p g gt : Nat} {gv x0 x1 x2 x3 y0 y1 y2 y3 : Value} (h : OS W p1 p2 p g gt gv #[x0, x1, x2, x3] #[y0, y1, y2, y3] V) : V.cell? ⟨p1, 0, none⟩ = some x0 ∧ V.cell? ⟨p1, 1, none⟩ = some x1 ∧ V.cell? ⟨p1, 2, none⟩ = some x2 ∧ V.cell? ⟨p1, 3, none⟩ = some x3 ∧ V.cell? ⟨p2, 0, none⟩ = some y0 ∧ V.cell? ⟨p2, 1, none⟩ = some y1 ∧ V.cell? ⟨p2, 2, none⟩ = some y2 ∧ V.cell? ⟨p2, 3, none⟩ = some y3 ∧ V.cell? ⟨g, 0, none⟩ = some gv :=
  ⟨h.x.cell 0, h.x.cell 1, h.x.cell 2, h.x.cell 3, h.y.cell 0, h.y.cell 1, h.y.cell 2, h.y.cell 3, h.f.cell 0⟩
theorem OS.set4 {p1 p2 p g gt : Nat} {gv : Value} {b1 b2 : Array Value} (h : OS W p1 p2 p g gt gv b1 b2 V) (h1 : p1 ≠ p) (h2 : p2 ≠ p) (h3 : g ≠ p) (h4 : W.heap.size ≤ p) (a0 a1 a2 a3 : Value) : OS W p1 p2 p g gt gv b1 b2 ((((V.setCell ⟨p, 0, none⟩ a0).setCell ⟨p, 1, none⟩ a1).setCell ⟨p, 2, none⟩ a2).setCell ⟨p, 3, none⟩ a3) := by
  obtain ⟨a, b, c, d, hz⟩ := h.z
  exact ⟨h.bel.trans ((fr_set4 V p a0 a1 a2 a3).below h.bel.size (fun k hk => by rw [hk]; exact h4)), (((h.x.far h1 a0).far h1 a1).far h1 a2).far h1 a3, (((h.y.far h2 a0).far h2 a1).far h2 a2).far h2 a3, ⟨a0, a1, a2, a3, hz.set4 a0 a1 a2 a3⟩, (((h.f.far h3 a0).far h3 a1).far h3 a2).far h3 a3⟩
set_option maxRecDepth 100000 in
set_option maxHeartbeats 4000000 in
theorem order1_v {X : Nat → Prop} (hX : ∀ k, X k → k < W.heap.size) (h1 : TEx X W u1 t1) (h2 : TEx X W u2 t2) (b : Bool) {fid : Nat} {caps : Array Value} {g : Nat} (eg : ∀ args w, (callFunc fid args).run Tryz.prog w = .ok (.enter fid args) w) (hg : Blk W g 77 #[.func (.func fid) #[] caps]) (hf : ∀ V, Below W.heap.size W V → Calls Tryz.prog fid (#[.int .i64 (t1.cmp t2)] ++ caps) V fun e w' => e = .returned (.bool b) ∧ Below V.heap.size V w') :
    Calls Tryz.prog 96 #[u1, u2, .pointer (some ⟨g, 0, none⟩)] W (R2 X W (truT b, [])) := by
  obtain ⟨A1, n1, c1, rfl, hn1⟩ := h1.form
  have H1 := Lib.hid h1
  have HN1 := Lib.hid hn1
  obtain ⟨A2, n2, c2, rfl, hn2⟩ := h2.form
  have H2 := Lib.hid h2
  have HN2 := Lib.hid hn2
  have HX := Lib.hid hX
  clear h1 hn1 h2 hn2 hX
  have HKg := Lib.hid hg
  have HF := Lib.hid hf
  have hgl := hg.lt
  clear hg hf
  go_enter Tryz.func96, Tryz.ntmps96
  go_upto_region 1 with (fail)
  refine wp_world (fun V => OS W W.heap.size (W.heap.size + 1) (W.heap.size + 1 + 1) g 77 (.func (.func fid) #[] caps) #[.int .i64 t1.kind, .int .i64 t1.int, .string ⟨t1.name.toArray⟩, .slice A1 n1 c1] #[.int .i64 t2.kind, .int .i64 t2.int, .string ⟨t2.name.toArray⟩, .slice A2 n2 c2] V) ⟨below_step (below_step (below_alloc _ _) (below_alloc _ _)) (below_alloc _ _), ((Blk.newAt (by first | (with_reducible rfl) | simp)).alloc _).alloc _, (Blk.newAt (by first | (with_reducible rfl) | simp)).alloc _, ⟨_, _, _, _, Blk.newAt (by first | (with_reducible rfl) | simp)⟩, ((HKg.out.alloc _).alloc _).alloc _⟩ ?_
  intro V0 hV0
  have HPL : Hid (∀ V, OS W W.heap.size (W.heap.size + 1) (W.heap.size + 1 + 1) g 77 (.func (.func fid) #[] caps) #[.int .i64 t1.kind, .int .i64 t1.int, .string ⟨t1.name.toArray⟩, .slice A1 n1 c1] #[.int .i64 t2.kind, .int .i64 t2.int, .string ⟨t2.name.toArray⟩, .slice A2 n2 c2] V → ∀ k, (fun k => X k ∨ k = W.heap.size + 1 + 1) k → k < V.heap.size) := fun V h k hk => by rcases hk with hk | rfl; exact Nat.lt_of_lt_of_le (HX.out k hk) h.bel.size; exact h.zlt
  have H00 : Hid (OS W W.heap.size (W.heap.size + 1) (W.heap.size + 1 + 1) g 77 (.func (.func fid) #[] caps) #[.int .i64 t1.kind, .int .i64 t1.int, .string ⟨t1.name.toArray⟩, .slice A1 n1 c1] #[.int .i64 t2.kind, .int .i64 t2.int, .string ⟨t2.name.toArray⟩, .slice A2 n2 c2] V0.drew) := hV0.keep (Below.refl _ _).drew
  have HK : Hid (∀ V, OS W W.heap.size (W.heap.size + 1) (W.heap.size + 1 + 1) g 77 (.func (.func fid) #[] caps) #[.int .i64 t1.kind, .int .i64 t1.int, .string ⟨t1.name.toArray⟩, .slice A1 n1 c1] #[.int .i64 t2.kind, .int .i64 t2.int, .string ⟨t2.name.toArray⟩, .slice A2 n2 c2] V → (V.cell? ⟨W.heap.size, 0, none⟩ = some (.int .i64 t1.kind) ∧ V.cell? ⟨W.heap.size, 1, none⟩ = some (.int .i64 t1.int) ∧ V.cell? ⟨W.heap.size, 2, none⟩ = some (.string ⟨t1.name.toArray⟩) ∧ V.cell? ⟨W.heap.size, 3, none⟩ = some (.slice A1 n1 c1) ∧ V.cell? ⟨W.heap.size + 1, 0, none⟩ = some (.int .i64 t2.kind) ∧ V.cell? ⟨W.heap.size + 1, 1, none⟩ = some (.int .i64 t2.int) ∧ V.cell? ⟨W.heap.size + 1, 2, none⟩ = some (.string ⟨t2.name.toArray⟩) ∧ V.cell? ⟨W.heap.size + 1, 3, none⟩ = some (.slice A2 n2 c2) ∧ V.cell? ⟨g, 0, none⟩ = some (.func (.func fid) #[] caps)) ∧ OS W W.heap.size (W.heap.size + 1) (W.heap.size + 1 + 1) g 77 (.func (.func fid) #[] caps) #[.int .i64 t1.kind, .int .i64 t1.int, .string ⟨t1.name.toArray⟩, .slice A1 n1 c1] #[.int .i64 t2.kind, .int .i64 t2.int, .string ⟨t2.name.toArray⟩, .slice A2 n2 c2] V) := fun V h => ⟨h.cells, h⟩
  have HKS : Hid (∀ V a0 a1 a2 a3, OS W W.heap.size (W.heap.size + 1) (W.heap.size + 1 + 1) g 77 (.func (.func fid) #[] caps) #[.int .i64 t1.kind, .int .i64 t1.int, .string ⟨t1.name.toArray⟩, .slice A1 n1 c1] #[.int .i64 t2.kind, .int .i64 t2.int, .string ⟨t2.name.toArray⟩, .slice A2 n2 c2] V → (((((World.setCell V ⟨W.heap.size + 1 + 1, 0, none⟩ a0).setCell ⟨W.heap.size + 1 + 1, 1, none⟩ a1).setCell ⟨W.heap.size + 1 + 1, 2, none⟩ a2).setCell ⟨W.heap.size + 1 + 1, 3, none⟩ a3).cell? ⟨W.heap.size, 0, none⟩ = some (.int .i64 t1.kind) ∧ ((((World.setCell V ⟨W.heap.size + 1 + 1, 0, none⟩ a0).setCell ⟨W.heap.size + 1 + 1, 1, none⟩ a1).setCell ⟨W.heap.size + 1 + 1, 2, none⟩ a2).setCell ⟨W.heap.size + 1 + 1, 3, none⟩ a3).cell? ⟨W.heap.size, 1, none⟩ = some (.int .i64 t1.int) ∧ ((((World.setCell V ⟨W.heap.size + 1 + 1, 0, none⟩ a0).setCell ⟨W.heap.size + 1 + 1, 1, none⟩ a1).setCell ⟨W.heap.size + 1 + 1, 2, none⟩ a2).setCell ⟨W.heap.size + 1 + 1, 3, none⟩ a3).cell? ⟨W.heap.size, 2, none⟩ = some (.string ⟨t1.name.toArray⟩) ∧ ((((World.setCell V ⟨W.heap.size + 1 + 1, 0, none⟩ a0).setCell ⟨W.heap.size + 1 + 1, 1, none⟩ a1).setCell ⟨W.heap.size + 1 + 1, 2, none⟩ a2).setCell ⟨W.heap.size + 1 + 1, 3, none⟩ a3).cell? ⟨W.heap.size, 3, none⟩ = some (.slice A1 n1 c1) ∧ ((((World.setCell V ⟨W.heap.size + 1 + 1, 0, none⟩ a0).setCell ⟨W.heap.size + 1 + 1, 1, none⟩ a1).setCell ⟨W.heap.size + 1 + 1, 2, none⟩ a2).setCell ⟨W.heap.size + 1 + 1, 3, none⟩ a3).cell? ⟨W.heap.size + 1, 0, none⟩ = some (.int .i64 t2.kind) ∧ ((((World.setCell V ⟨W.heap.size + 1 + 1, 0, none⟩ a0).setCell ⟨W.heap.size + 1 + 1, 1, none⟩ a1).setCell ⟨W.heap.size + 1 + 1, 2, none⟩ a2).setCell ⟨W.heap.size + 1 + 1, 3, none⟩ a3).cell? ⟨W.heap.size + 1, 1, none⟩ = some (.int .i64 t2.int) ∧ ((((World.setCell V ⟨W.heap.size + 1 + 1, 0, none⟩ a0).setCell ⟨W.heap.size + 1 + 1, 1, none⟩ a1).setCell ⟨W.heap.size + 1 + 1, 2, none⟩ a2).setCell ⟨W.heap.size + 1 + 1, 3, none⟩ a3).cell? ⟨W.heap.size + 1, 2, none⟩ = some (.string ⟨t2.name.toArray⟩) ∧ ((((World.setCell V ⟨W.heap.size + 1 + 1, 0, none⟩ a0).setCell ⟨W.heap.size + 1 + 1, 1, none⟩ a1).setCell ⟨W.heap.size + 1 + 1, 2, none⟩ a2).setCell ⟨W.heap.size + 1 + 1, 3, none⟩ a3).cell? ⟨W.heap.size + 1, 3, none⟩ = some (.slice A2 n2 c2) ∧ ((((World.setCell V ⟨W.heap.size + 1 + 1, 0, none⟩ a0).setCell ⟨W.heap.size + 1 + 1, 1, none⟩ a1).setCell ⟨W.heap.size + 1 + 1, 2, none⟩ a2).setCell ⟨W.heap.size + 1 + 1, 3, none⟩ a3).cell? ⟨g, 0, none⟩ = some (.func (.func fid) #[] caps)) ∧ OS W W.heap.size (W.heap.size + 1) (W.heap.size + 1 + 1) g 77 (.func (.func fid) #[] caps) #[.int .i64 t1.kind, .int .i64 t1.int, .string ⟨t1.name.toArray⟩, .slice A1 n1 c1] #[.int .i64 t2.kind, .int .i64 t2.int, .string ⟨t2.name.toArray⟩, .slice A2 n2 c2] ((((World.setCell V ⟨W.heap.size + 1 + 1, 0, none⟩ a0).setCell ⟨W.heap.size + 1 + 1, 1, none⟩ a1).setCell ⟨W.heap.size + 1 + 1, 2, none⟩ a2).setCell ⟨W.heap.size + 1 + 1, 3, none⟩ a3)) := fun V a0 a1 a2 a3 h => have h9 := h.set4 (by omega) (by omega) (by omega) (by omega) a0 a1 a2 a3; ⟨h9.cells, h9⟩
  have HCMP : Hid (∀ V, OS W W.heap.size (W.heap.size + 1) (W.heap.size + 1 + 1) g 77 (.func (.func fid) #[] caps) #[.int .i64 t1.kind, .int .i64 t1.int, .string ⟨t1.name.toArray⟩, .slice A1 n1 c1] #[.int .i64 t2.kind, .int .i64 t2.int, .string ⟨t2.name.toArray⟩, .slice A2 n2 c2] V → Calls Tryz.prog 97 #[.agg #[.int .i64 t1.kind, .int .i64 t1.int, .string ⟨t1.name.toArray⟩, .slice A1 n1 c1], .agg #[.int .i64 t2.kind, .int .i64 t2.int, .string ⟨t2.name.toArray⟩, .slice A2 n2 c2]] V fun e w' => e = .returned (.int .i64 (t1.cmp t2)) ∧ Below V.heap.size V w') := fun V h => pcmp_v (H1.out.below h.bel) (H2.out.below h.bel)
  have HFN : Hid (∀ V, OS W W.heap.size (W.heap.size + 1) (W.heap.size + 1 + 1) g 77 (.func (.func fid) #[] caps) #[.int .i64 t1.kind, .int .i64 t1.int, .string ⟨t1.name.toArray⟩, .slice A1 n1 c1] #[.int .i64 t2.kind, .int .i64 t2.int, .string ⟨t2.name.toArray⟩, .slice A2 n2 c2] V → Calls Tryz.prog fid (#[.int .i64 (t1.cmp t2)] ++ caps) V fun e w' => e = .returned (.bool b) ∧ Below V.heap.size V w') := fun V h => HF.out V h.bel
  have HTR : Hid (∀ V, OS W W.heap.size (W.heap.size + 1) (W.heap.size + 1 + 1) g 77 (.func (.func fid) #[] caps) #[.int .i64 t1.kind, .int .i64 t1.int, .string ⟨t1.name.toArray⟩, .slice A1 n1 c1] #[.int .i64 t2.kind, .int .i64 t2.int, .string ⟨t2.name.toArray⟩, .slice A2 n2 c2] V → Calls Tryz.prog 37 #[.bool b] V (R2 (fun k => X k ∨ k = W.heap.size + 1 + 1) V (truT b, []))) := fun V h => truth_v (HPL.out V h) b
  clear hV0 hgl
  go_region_held3 (fun V => (V.cell? ⟨W.heap.size, 0, none⟩ = some (.int .i64 t1.kind) ∧ V.cell? ⟨W.heap.size, 1, none⟩ = some (.int .i64 t1.int) ∧ V.cell? ⟨W.heap.size, 2, none⟩ = some (.string ⟨t1.name.toArray⟩) ∧ V.cell? ⟨W.heap.size, 3, none⟩ = some (.slice A1 n1 c1) ∧ V.cell? ⟨W.heap.size + 1, 0, none⟩ = some (.int .i64 t2.kind) ∧ V.cell? ⟨W.heap.size + 1, 1, none⟩ = some (.int .i64 t2.int) ∧ V.cell? ⟨W.heap.size + 1, 2, none⟩ = some (.string ⟨t2.name.toArray⟩) ∧ V.cell? ⟨W.heap.size + 1, 3, none⟩ = some (.slice A2 n2 c2) ∧ V.cell? ⟨g, 0, none⟩ = some (.func (.func fid) #[] caps)) ∧ OS W W.heap.size (W.heap.size + 1) (W.heap.size + 1 + 1) g 77 (.func (.func fid) #[] caps) #[.int .i64 t1.kind, .int .i64 t1.int, .string ⟨t1.name.toArray⟩, .slice A1 n1 c1] #[.int .i64 t2.kind, .int .i64 t2.int, .string ⟨t2.name.toArray⟩, .slice A2 n2 c2] V) (first | exact HK.out _ H00.out | exact HK.out _ hP9 | exact HKS.out _ _ _ _ _ hP9 | exact HKS.out _ _ _ _ _ (And.right (by assumption)) | assumption) ((first
      | (go_at_call 97; refine (HCMP.out _ (And.right (by assumption))).mono ?_; rintro r V9 ⟨rfl, hb9⟩; have hP9 := OS.keep (And.right (by assumption)) hb9; clear hb9)
      | (go_at_call 37; refine (HTR.out _ (And.right (by assumption))).mono ?_; rintro r V9 ⟨v, rfl, hT, hb9⟩; obtain ⟨A9, n9, c9, rfl, hn⟩ := hT.form; have HT := Lib.hid hT; have hP9 := OS.keep (And.right (by assumption)) hb9; have HP9 := Lib.hid hP9; obtain ⟨z0, z1, z2, z3, hz⟩ := hP9.z; have HKz := Lib.hid hz; have j0 := hz.cell 0; have j1 := hz.cell 1; have j2 := hz.cell 2; have j3 := hz.cell 3; have f0 := hz.frozen 0; have f1 := hz.frozen 1; have f2 := hz.frozen 2; have f3 := hz.frozen 3; clear hb9 hn hT hz)
      | (refine (HFN.out _ (And.right (by assumption))).mono ?_; rintro r V9 ⟨rfl, hb9⟩; have hP9 := OS.keep (And.right (by assumption)) hb9; clear hb9)))
  have HB := Lib.hid HP9.out.bel
  rename_i hHeld9
  clear hHeld9 hP9
  go_wp2
  have hB2 := HKz.out.set4 (.int .i64 ((truT b)).kind) (.int .i64 ((truT b)).int) (.string ⟨((truT b)).name.toArray⟩) (.slice A9 n9 c9)
  have y0 := hB2.cell 0
  have y1 := hB2.cell 1
  have y2 := hB2.cell 2
  have y3 := hB2.cell 3
  refine bodyPost_ret (v := .tuple #[.agg #[.int .i64 ((truT b)).kind, .int .i64 ((truT b)).int, .string ⟨((truT b)).name.toArray⟩, .slice A9 n9 c9], .string ⟨(([] : List UInt8)).toArray⟩]) (by simp [results, Tryz.results96, go_sem, y0, y1, y2, y3]) rfl ?_
  obtain ⟨g1, g2⟩ := fin4 (X := X) HB.out (by omega) HT.out
  exact ⟨_, rfl, g1, g2⟩
end
end Go.Proofs.YtbpnlpjbjmojfaaGreat
