/- The walk of live of the statements of layer 17; a box made anew. -/
import Derived.Test.YthmlpiiajlfmcaaMAllB
import Derived.Deep.RegionHeld3
namespace Go.Proofs.Ythmlpiiajlfmcaa
open Go.RowKit
set_option linter.unusedVariables false

def Yes (w : World) (e : Ending) (w' : World) : Prop := e = .returned (.bool true) ∧ Below w.heap.size w w'

set_option maxHeartbeats 400000 in
theorem num_any (n : Int) (w : World) :
    Calls Try.prog 12 #[.int .i64 n] w fun e w' => e = .returned (.int .i64 n) ∧ w = w' := by
  go_enter Try.func12, Try.ntmps12
  go_wp2
  go_ret
  exact ⟨rfl, rfl⟩

theorem BoxAt.v {w0 W : World} {pb : Nat} {A : Option Addr} {cap : Nat} {es : List (TE w0)} (h : BoxAt w0 pb A cap es W) : BoxV w0 W.heap.size W.heap.size (.pointer (some ⟨pb, 0, none⟩)) es W :=
  .some h ⟨h.obj.lt, by have := h.obj.lt; omega⟩ (fun g hg => by have := (World.ownsRow.lt h.row g hg).2; exact ⟨this, by omega⟩)
/-- All of a box. -/
theorem all_box {w0 W : World} {pb : Nat} {A : Option Addr} {cap : Nat} {es : List (TE w0)} (h : BoxAt w0 pb A cap es W) :
    Calls Try.prog 18 #[.pointer (some ⟨pb, 0, none⟩)] W fun e w' => ∃ A' c', e = .returned (.tuple #[.slice A' es.length c', .bool true]) ∧ RdM w' A' c' (es.map (·.t)) ∧ w'.ownsRow W.heap.size 35 4 (.slice A' es.length c') es.length (cellsL es) ∧ Below W.heap.size W w' :=
  (all_in w0 _ es W h.ok.len h.bel h.v rfl).mono fun e w' ⟨A', c', he, ho, hb⟩ => ⟨A', c', he, rdm_of_own ho rfl (below_step h.bel hb), ho, hb⟩

def ti (n : Int) : TV := .mk 1 n [] []
theorem ti_at {V : World} {g o : Nat} {n : Int} (h0 : V.cell? ⟨g, o, none⟩ = some (.int .i64 1)) (h1 : V.cell? ⟨g, o + 1, none⟩ = some (.int .i64 n)) (h2 : V.cell? ⟨g, o + 2, none⟩ = some (.string ⟨#[]⟩)) (h3 : V.cell? ⟨g, o + 3, none⟩ = some (.slice none 0 0)) : (ti n).At V g o :=
  (TV.at_iff _ _ _).2 ⟨h0, h1, h2, none, 0, h3, ⟨Nat.le_refl _, by omega, .inl rfl⟩⟩
theorem rdm_three {V : World} {g : Nat} {a b c : Int} (h : Blk V g 35 #[.int .i64 1, .int .i64 a, .string ⟨#[]⟩, .slice none 0 0, .int .i64 1, .int .i64 b, .string ⟨#[]⟩, .slice none 0 0, .int .i64 1, .int .i64 c, .string ⟨#[]⟩, .slice none 0 0]) : RdM V (some ⟨g, 0, none⟩) 3 [ti a, ti b, ti c] := by
  refine ⟨by simp, by omega, .inr ⟨g, 0, rfl, ?_⟩⟩
  simp only [TV.Row, and_true]
  exact ⟨ti_at (h.cell 0) (h.cell 1) (h.cell 2) (h.cell 3), ti_at (h.cell 4) (h.cell 5) (h.cell 6) (h.cell 7), ti_at (h.cell 8) (h.cell 9) (h.cell 10) (h.cell 11)⟩
theorem rdm_two {V : World} {g : Nat} {a b : Int} (h : Blk V g 35 #[.int .i64 1, .int .i64 a, .string ⟨#[]⟩, .slice none 0 0, .int .i64 1, .int .i64 b, .string ⟨#[]⟩, .slice none 0 0]) : RdM V (some ⟨g, 0, none⟩) 2 [ti a, ti b] := by
  refine ⟨by simp, by omega, .inr ⟨g, 0, rfl, ?_⟩⟩
  simp only [TV.Row, and_true]
  exact ⟨ti_at (h.cell 0) (h.cell 1) (h.cell 2) (h.cell 3), ti_at (h.cell 4) (h.cell 5) (h.cell 6) (h.cell 7)⟩
theorem ti_named (n : Int) : (ti n).named := by simp [ti, TV.named, TV.namedL]
theorem tint_ch (w : World) (n : Int) (V : World) (h : Below w.heap.size w V) : Calls Try.prog 25 #[.int .i64 n] V fun e w' => e = .returned (.agg #[.int .i64 1, .int .i64 n, .string ⟨#[]⟩, .slice none 0 0]) ∧ Below w.heap.size w w' :=
  (tint_any n V).mono fun e w' ⟨he, hb⟩ => ⟨he, below_step h hb⟩
theorem bnew_live (w V : World) (g : Nat) (hb : Below w.heap.size w V) (hB : Blk V g 35 #[.int .i64 1, .int .i64 1, .string ⟨#[]⟩, .slice none 0 0, .int .i64 1, .int .i64 2, .string ⟨#[]⟩, .slice none 0 0, .int .i64 1, .int .i64 3, .string ⟨#[]⟩, .slice none 0 0]) :
    Calls Try.prog 10 #[.slice (some ⟨g, 0, none⟩) 3 3] V fun e w' => ∃ V0 pb A cap, ∃ e1 e2 e3 : TE V0, e = .returned (.tuple #[.pointer (some ⟨pb, 0, none⟩), .int .i64 0]) ∧ (e1.t = ti 1 ∧ e2.t = ti 2 ∧ e3.t = ti 3) ∧ BoxAt V0 pb A cap [e1, e2, e3] w' ∧ Below w.heap.size w V0 :=
  (bnew_any [ti 1, ti 2, ti 3] (some ⟨g, 0, none⟩) 3 3 V V rfl (by simp [TV.namedL, ti_named]) (Below.refl _ _) (rdm_three hB)).mono fun e w' ⟨h1, h2⟩ => by
    have h0 : (newT [] [ti 1, ti 2, ti 3]).1 = 0 := by kernel_rfl
    rcases h2 with ⟨h3, _⟩ | ⟨_, pb, A, cap, es, he, hm, hbx, _, _⟩
    · exact absurd h0 h3
    · obtain ⟨e1, r1, rfl, h1, hm⟩ := List.map_eq_cons_iff.1 hm
      obtain ⟨e2, r2, rfl, h2, hm⟩ := List.map_eq_cons_iff.1 hm
      obtain ⟨e3, r3, rfl, h3, hm⟩ := List.map_eq_cons_iff.1 hm
      obtain rfl := List.map_eq_nil_iff.1 hm
      exact ⟨V, pb, A, cap, e1, e2, e3, he, ⟨h1, h2, h3⟩, hbx, hb⟩
theorem btake_live {V0 W : World} {pb : Nat} {A : Option Addr} {cap : Nat} {e1 e2 e3 : TE V0} (h : BoxAt V0 pb A cap [e1, e2, e3] W) (h2 : e2.t = ti 2) :
    Calls Try.prog 15 #[.pointer (some ⟨pb, 0, none⟩), .int .i64 1] W fun r w' => r = .returned (.tuple #[.agg #[.int .i64 1, .int .i64 2, .string ⟨#[]⟩, .slice e2.A 0 e2.c], .int .i64 0]) ∧ BoxAt V0 pb A cap [e1, e3] w' :=
  (btake_in h 1 (by simp)).mono fun r w' ⟨hr, hb, _⟩ => ⟨by
    rw [hr]
    simp only [List.getElem_cons_succ, List.getElem_cons_zero, TE.agg, h2]
    rfl, hb⟩

set_option maxRecDepth 100000 in
set_option maxHeartbeats 2000000 in
theorem live_any (w : World) : Calls Try.prog 9 #[] w (Yes w) := by
  have HNEW := Lib.hid (bnew_live w)
  have hbw : Below w.heap.size w w := Below.refl _ _
  go_enter Try.func9, Try.ntmps9
  go_upto_region 4 with (first
    | (go_at_call 25; refine (tint_ch w _ _ (by assumption)).mono ?_; clear hbw; rintro e w' ⟨rfl, hbw⟩)
    | (go_at_call 10; refine (HNEW.out _ _ (below_step hbw (below_alloc _ _)) (Blk.new _ _ _)).mono ?_; rintro e w2 ⟨V0, pb, A, cap, e1, e2, e3, rfl, ⟨ht1, ht2, ht3⟩, hbx, hb0⟩)
    | (go_at_call 12; refine (num_any _ _).mono ?_; rintro e w' ⟨rfl, rfl⟩))
  refine wp_world (fun W => BoxAt V0 pb A cap [e1, e2, e3] W) hbx ?_
  clear hbx hbw HNEW
  intro W1 hb1
  go_upto_region 5 with (go_at_call 15; refine (btake_live hb1 ht2).mono ?_; rintro e w2 ⟨rfl, hb2⟩)
  obtain ⟨tb, htb⟩ : ∃ tb, w2.heap.size = tb := ⟨_, rfl⟩
  refine wp_world (fun W => BoxAt V0 pb A cap [e1, e3] W ∧ Blk W w2.heap.size 35 #[.int .i64 1, .int .i64 2, .string ⟨#[]⟩, .slice e2.A 0 e2.c]) ⟨hb2.keep (below_alloc _ _), Blk.new _ _ _⟩ ?_
  rw [htb]
  clear hb2 hb1 htb
  rintro W2 ⟨hb2, hk2⟩
  go_upto_region 6 with (go_at_call 18; refine (all_box hb2).mono ?_; rintro e w3 ⟨A', c', rfl, hr3, _, hb3⟩)
  refine wp_world (fun W => BoxAt V0 pb A cap [e1, e3] W ∧ Blk W tb 35 #[.int .i64 1, .int .i64 2, .string ⟨#[]⟩, .slice e2.A 0 e2.c] ∧ RdM W A' c' [ti 1, ti 3]) ⟨hb2.keep hb3, hk2.keep hb3, by simpa [ht1, ht3] using hr3⟩ ?_
  clear hb2 hk2 hr3 hb3
  rintro X ⟨hb4, hk4, hr4⟩
  have hpp : bparts [e1, e3] = 2 := by simp [bparts, ht1, ht3, TV.partsL, ti, TV.parts]
  have hb42 : RdM X e2.A e2.c (ti 2).items := by have := e2.ok; rw [ht2] at this; exact this.below hb4.bel
  have HSAME : Hid (∀ V, Below X.heap.size X V → Calls Try.prog 17 #[.agg #[.int .i64 1, .int .i64 2, .string ⟨#[]⟩, .slice e2.A 0 e2.c], .agg #[.int .i64 1, .int .i64 2, .string ⟨#[]⟩, .slice none 0 0]] V fun e w' => e = .returned (.bool true) ∧ Below X.heap.size X w') := fun V hb =>
    (tsame_any (ti 2) (ti 2) e2.A e2.c none 0 X V hb hb42 ⟨Nat.le_refl _, by omega, .inl rfl⟩).mono fun e w' ⟨he, h⟩ => ⟨by rw [he, cmp_self], below_step hb h⟩
  have HROWS : Hid (∀ V g, Below X.heap.size X V → Blk V g 35 #[.int .i64 1, .int .i64 1, .string ⟨#[]⟩, .slice none 0 0, .int .i64 1, .int .i64 3, .string ⟨#[]⟩, .slice none 0 0] → Calls Try.prog 19 #[.slice A' 2 c', .slice (some ⟨g, 0, none⟩) 2 2] V fun e w' => e = .returned (.bool true) ∧ Below X.heap.size X w') := fun V g hb hB =>
    (rows_any [ti 1, ti 3] [ti 1, ti 3] A' 2 c' (some ⟨g, 0, none⟩) 2 2 V V rfl rfl (Below.refl _ _) (hr4.below hb) (rdm_two hB)).mono fun e w' ⟨he, h⟩ => ⟨by rw [he, rowsB_self], below_step hb h⟩
  have HPARTS : Hid (∀ V, Below X.heap.size X V → Calls Try.prog 21 #[.pointer (some ⟨pb, 0, none⟩)] V fun e w' => e = .returned (.int .i64 2) ∧ V = w') := fun V hb =>
    (bparts_any (hb4.keep hb)).mono fun e w' ⟨he, h⟩ => ⟨by rw [he, hpp]; rfl, h⟩
  have HINT := Lib.hid (fun n V (hb : Below X.heap.size X V) => tint_ch X n V hb)
  have HS : Hid (∀ V, Below X.heap.size X V → (V.cell? ⟨tb, 0, none⟩ = some (.int .i64 1) ∧ V.cell? ⟨tb, 1, none⟩ = some (.int .i64 2) ∧ V.cell? ⟨tb, 2, none⟩ = some (.string ⟨#[]⟩) ∧ V.cell? ⟨tb, 3, none⟩ = some (.slice e2.A 0 e2.c)) ∧ Below X.heap.size X V) := fun V hb => ⟨⟨(hk4.keep hb).cell 0, (hk4.keep hb).cell 1, (hk4.keep hb).cell 2, (hk4.keep hb).cell 3⟩, hb⟩
  have HX := Lib.hid (below_step hb0 hb4.bel)
  clear hb4 hk4 hr4 hpp hb0 hb42
  go_region_held3 (fun V => (V.cell? ⟨tb, 0, none⟩ = some (.int .i64 1) ∧ V.cell? ⟨tb, 1, none⟩ = some (.int .i64 2) ∧ V.cell? ⟨tb, 2, none⟩ = some (.string ⟨#[]⟩) ∧ V.cell? ⟨tb, 3, none⟩ = some (.slice e2.A 0 e2.c)) ∧ Below X.heap.size X V) (first | exact HS.out _ hb9 | exact HS.out _ (Below.refl _ _).drew | exact HS.out _ (below_step (And.right (by assumption)) (below_alloc _ _))) ((first
    | (go_at_call 12; refine (num_any _ _).mono ?_; rintro e w' ⟨rfl, rfl⟩)
    | (go_at_call 25; refine (HINT.out _ _ (And.right (by assumption))).mono ?_; rintro e w' ⟨rfl, hb9⟩)
    | (go_at_call 17; refine (HSAME.out _ (And.right (by assumption))).mono ?_; rintro e w' ⟨rfl, hb9⟩)
    | (go_at_call 19; refine (HROWS.out _ _ (And.right (by assumption)) (Blk.new _ _ _)).mono ?_; rintro e w' ⟨rfl, hb9⟩)
    | (go_at_call 21; refine (HPARTS.out _ (And.right (by assumption))).mono ?_; rintro e w' ⟨rfl, rfl⟩)))
  all_goals
    go_wp2
    go_ret
    exact ⟨rfl, below_step HX.out hb9⟩
end Go.Proofs.Ythmlpiiajlfmcaa
