/- Layer 13: the walk of the document's match at a variable that is not bound. Written by magent.py. -/
import Derived.Test.YtmpknhdfglbocaaGreatMaS
namespace Go.Proofs.YtmpknhdfglbocaaGreat
open Go.RowKit
set_option linter.unusedVariables false

theorem csB_grown {W V : World} {A : Option Addr} {cs : List Value} {row : Option Nat} (h : Cs W A cs) (hg : W.grownBy V row) (hne : ∀ a, A = some a → some a.block ≠ row) : Cs V A cs := by
  rcases h with h0 | ⟨b, e, hcell⟩
  · exact .inl h0
  · exact .inr ⟨b, e, fun j w hj => (hg.cell_far _ (World.block_lt_of_cell? W _ (hcell j w hj)) (by rw [show (b.add j).block = b.block by cases b; simp only [Addr.add]; split <;> rfl]; exact hne b e)).trans (hcell j w hj)⟩
theorem bc_one9 (s : List UInt8) (k i : Int) (n : List UInt8) (A : Option Addr) (l c : Nat) : ∀ u ∈ [Value.string ⟨s.toArray⟩, .int .i64 k, .int .i64 i, .string ⟨n.toArray⟩, .slice A l c], u.oneCell' = true := by
  intro u hu
  simp only [List.mem_cons, List.mem_nil_iff, or_false] at hu
  rcases hu with rfl | rfl | rfl | rfl | rfl <;> rfl
section
variable {W V : World} {K : List (List UInt8)} {E : List (BG (TE W))} {A : Option Addr} {c : Nat}

set_option maxRecDepth 100000 in
set_option maxHeartbeats 4000000 in
theorem rm_k3c (t : TE W) (hE : RdB W A c E) (hL : LimN K ((vE E).map (·.1))) (n : Int) (s : List UInt8) (a : Int) (v4 v5 v6 : Value) (hus : (s == [95]) = false) (hK2 : K.length ≤ 1000000) (hsK : s ∈ K) (hg : getG s (vE E) = none) :
    Calls Tryz.prog 32 #[.agg #[.int .i64 3, .int .i64 n, .string ⟨s.toArray⟩, .int .i64 a, v4, v5, v6], .agg #[.int .i64 t.t.kind, .int .i64 t.t.int, .string ⟨t.t.name.toArray⟩, .slice t.A t.t.items.length t.c], .slice A E.length c] W (RMEnd K W (vE E ++ [(s, t.t)], true)) := by
  obtain ⟨ne, hne⟩ : ∃ ne, E.length = ne := ⟨_, rfl⟩
  have hle : E.length ≤ 1001000 := by have := hL.len; rw [List.length_map, vE_len] at this; omega
  have HGET : Hid (∀ V, Below W.heap.size W V → Calls Tryz.prog 13 #[.string ⟨s.toArray⟩, .slice A ne c] V fun e w' => ∃ (B : Option Addr) (d : Nat), e = .returned (.tuple #[.agg #[.int .i64 0, .int .i64 0, .string ⟨#[]⟩, .slice B 0 d], .bool false]) ∧ Below V.heap.size V w') := fun V hb => by
    have := rget_any V s (upE hb E) A c ((hE.below hb).up hb) (by rw [upE_len]; omega)
    rw [upE_len, vE_up, hne, hg] at this
    exact this.mono fun e w' h => by
      obtain ⟨u, hu, he, hb2⟩ := h
      simp only [Option.getD_none, Option.isSome_none] at hu he
      rw [hu] at he
      exact ⟨u.A, u.c, he, hb2⟩
  have HLIM : Hid (LimN K ((vE E ++ [(s, t.t)]).map (·.1))) := by
    unfold Hid
    rw [List.map_append]
    refine hL.snoc hsK fun hm => ?_
    obtain ⟨q, hq, e⟩ := List.mem_map.1 hm
    exact getG_none.1 hg q hq e
  have HFIN : Hid (∀ (B : Nat) (V : World) (v : Value), Below W.heap.size W V → V.ownsRow B 52 5 v (0 + ne + 1) (([] ++ bL E) ++ [.string ⟨s.toArray⟩, .int .i64 t.t.kind, .int .i64 t.t.int, .string ⟨t.t.name.toArray⟩, .slice t.A t.t.items.length t.c]) → ∃ A2 c2, v = .slice A2 (ne + 1) c2 ∧ RMEnd K W (vE E ++ [(s, t.t)], true) (.returned (.tuple #[.slice A2 (ne + 1) c2, .bool true])) V) := fun B V v hb ho => by
    rw [Nat.zero_add, List.nil_append] at ho
    obtain ⟨A2, c2, rfl⟩ := own_shape ho
    have ho2 : V.ownsRow B 52 5 (.slice A2 (ne + 1) c2) (ne + 1) (bL (E ++ [(s, t)])) := by rw [bL_snoc]; exact ho
    have hlen : (E ++ [(s, t)]).length = ne + 1 := by rw [List.length_append, hne]; rfl
    have hr := rdb_of_own ho2 hlen
    refine ⟨A2, c2, rfl, A2, c2, upE hb (E ++ [(s, t)]), by rw [upE_len, hlen], ?_, hr.up hb, ?_, hb⟩
    · rw [vE_up, vE_snoc]
    · rw [vE_up, vE_snoc]; exact HLIM.out
  have HCE : Hid (∀ V, Below W.heap.size W V → Cs V A (bL E)) := fun V hb => csB_below hE.cs hb
  have HEL : Hid ((bL E).length = ne * 5) := by unfold Hid; rw [← hne]; exact flat_len bc_len E
  have HE1 : Hid (∀ u ∈ bL E, u.oneCell' = true) := flat_one' bc_one E
  have hlc : ne ≤ c := by have := hE.1; omega
  have hlc2 := hE.2.1
  rw [hne] at hle
  rw [hne]
  generalize bL E = cE at *
  clear hE hL hne hg HLIM
  generalize t.t.items.length = tl at *
  generalize t.t.kind = tk at *
  generalize t.t.int = ti at *
  generalize t.t.name = tn at *
  generalize t.A = tA at *
  generalize t.c = tc at *
  go_enter Tryz.func32, Tryz.ntmps32
  go_upto_region 1 with (fail)
  refine wp_world (fun V => Blk V W.heap.size 29 #[.int .i64 3, .int .i64 n, .string ⟨s.toArray⟩, .int .i64 a, v4, v5, v6] ∧ Blk V (W.heap.size + 1) 35 #[.int .i64 tk, .int .i64 ti, .string ⟨tn.toArray⟩, .slice tA tl tc] ∧ Below W.heap.size W V) (two_box W _ _) ?_
  rintro V ⟨h7, h4, hb⟩
  have x0 := h7.cell 0
  have x1 := h7.cell 1
  have x2 := h7.cell 2
  have x4 := h7.cell 4
  have y0 := h4.cell 0
  have y1 := h4.cell 1
  have y2 := h4.cell 2
  have y3 := h4.cell 3
  have hl7 := h7.lt
  have hl4 := h4.lt
  have HB := Lib.hid hb
  clear hb
  go_upto_region 15 with (go_at_call 13; refine (HGET.out _ HB.out).mono ?_; rintro e V2 ⟨B, d, rfl, hb2⟩)
  refine wp_world (fun V3 => Blk V3 V2.heap.size 35 #[.int .i64 0, .int .i64 0, .string ⟨#[]⟩, .slice B 0 d] ∧ Blk V3 (W.heap.size + 1) 35 #[.int .i64 tk, .int .i64 ti, .string ⟨tn.toArray⟩, .slice tA tl tc] ∧ Blk V3 W.heap.size 29 #[.int .i64 3, .int .i64 n, .string ⟨s.toArray⟩, .int .i64 a, v4, v5, v6] ∧ Below V.heap.size V V3) ⟨Blk.new _ _ _, (h4.keep hb2).alloc _, (h7.keep hb2).alloc _, below_step hb2 (below_alloc _ _)⟩ ?_
  clear x0 x1 x2 x4 y0 y1 y2 y3 hl7 hl4 h7 h4
  rintro V3 ⟨hu3, h43, h73, hb3⟩
  have y0 := h43.cell 0
  have y1 := h43.cell 1
  have y2 := h43.cell 2
  have y3 := h43.cell 3
  have x2 := h73.cell 2
  have HB3 := Lib.hid hb3
  clear hu3 h43 h73 hb3 hb2
  go_wp2
  have HB3W := Lib.hid (below_step HB.out HB3.out)
  have HYX : Hid (∀ V', Below V3.heap.size V3 V' → V'.cell? ⟨W.heap.size + 1, 0, none⟩ = some (.int .i64 tk) ∧ V'.cell? ⟨W.heap.size + 1, 1, none⟩ = some (.int .i64 ti) ∧ V'.cell? ⟨W.heap.size + 1, 2, none⟩ = some (.string ⟨tn.toArray⟩) ∧ V'.cell? ⟨W.heap.size + 1, 3, none⟩ = some (.slice tA tl tc) ∧ V'.cell? ⟨W.heap.size, 2, none⟩ = some (.string ⟨s.toArray⟩)) := fun V' hb => ⟨(hb.cell (World.block_lt_of_cell? V3 _ y0)).trans y0, (hb.cell (World.block_lt_of_cell? V3 _ y1)).trans y1, (hb.cell (World.block_lt_of_cell? V3 _ y2)).trans y2, (hb.cell (World.block_lt_of_cell? V3 _ y3)).trans y3, (hb.cell (World.block_lt_of_cell? V3 _ x2)).trans x2⟩
  clear y0 y1 y2 y3 x2 HB3 HB HGET
  refine wp_region_W 8 (fun V => Below V3.heap.size V3 V) (by kernel_rfl) ?_ (fun hS0 => ?_)
  · exact (Below.refl _ _).drew
  (refine wpAnyW_take (i := 1) (v := ?_) rfl (by kernel_rfl) (by kernel_rfl) (by kernel_rfl) (by kernel_rfl) (fun _ _ _ h => h) (Or.inl ⟨by kernel_rfl, ?_⟩) (by assumption) ?_; rotate_left; focus (intro V9 hS9; go_simp; (try (with_reducible rfl)); done))
  try simp only [Act.put, List.getElem_toArray, List.getElem_cons_succ, List.getElem_cons_zero, List.setIfInBounds_toArray, List.set_cons_succ, List.set_cons_zero]
  (refine wpAnyW_take (i := 3) (v := ?_) rfl (by kernel_rfl) (by kernel_rfl) (by kernel_rfl) (by kernel_rfl) (fun _ _ _ h => h) (Or.inl ⟨by kernel_rfl, ?_⟩) (by assumption) ?_; rotate_left; focus (intro V9 hS9; go_simp; (try (with_reducible rfl)); done))
  try simp only [Act.put, List.getElem_toArray, List.getElem_cons_succ, List.getElem_cons_zero, List.setIfInBounds_toArray, List.set_cons_succ, List.set_cons_zero]
  (refine wpAnyW_take (i := 4) (v := ?_) rfl (by kernel_rfl) (by kernel_rfl) (by kernel_rfl) (by kernel_rfl) (fun _ _ _ h => h) (Or.inl ⟨by kernel_rfl, ?_⟩) (by assumption) ?_; rotate_left; focus (intro V9 hS9; have g2 := (HYX.out V9 hS9).2.2.2.2; go_simp; (try (with_reducible rfl)); done))
  try simp only [Act.put, List.getElem_toArray, List.getElem_cons_succ, List.getElem_cons_zero, List.setIfInBounds_toArray, List.set_cons_succ, List.set_cons_zero]
  (refine wpAnyW_take (i := 5) (v := ?_) rfl (by kernel_rfl) (by kernel_rfl) (by kernel_rfl) (by kernel_rfl) (fun _ _ _ h => h) (Or.inl ⟨by kernel_rfl, ?_⟩) (by assumption) ?_; rotate_left; focus (intro V9 hS9; obtain ⟨g0, g1, g2, g3, _⟩ := HYX.out V9 hS9; go_simp; (try (with_reducible rfl)); done))
  try simp only [Act.put, List.getElem_toArray, List.getElem_cons_succ, List.getElem_cons_zero, List.setIfInBounds_toArray, List.set_cons_succ, List.set_cons_zero]
  (refine wpAnyW_take (i := 6) (v := ?_) rfl (by kernel_rfl) (by kernel_rfl) (by kernel_rfl) (by kernel_rfl) (fun _ _ _ h => h) (Or.inl ⟨by kernel_rfl, ?_⟩) (by assumption) ?_; rotate_left; focus (intro V9 hS9; go_simp; (try (with_reducible rfl)); done))
  try simp only [Act.put, List.getElem_toArray, List.getElem_cons_succ, List.getElem_cons_zero, List.setIfInBounds_toArray, List.set_cons_succ, List.set_cons_zero]
  refine wpAnyW_world (fun V => Below V3.heap.size V3 V) hS0 ?_
  rintro V5 hb5
  refine wpAnyW_ready (rs := [0, 7]) (by kernel_rfl) (by simp) ?_
  refine AllReadyW.cons rfl (fun K hK => ?_) (AllReadyW.cons rfl (fun K hK => ?_) AllReadyW.nil)
  · go_simp
    refine hK.out _ _ (below_step hb5 (below_alloc _ _)) (fun _ => ?_)
    clear hK K
    try simp only [Act.put, List.getElem_toArray, List.getElem_cons_succ, List.getElem_cons_zero, List.setIfInBounds_toArray, List.set_cons_succ, List.set_cons_zero]
    refine wpAnyW_world (fun V => Below V3.heap.size V3 V ∧ V.ownsRow V3.heap.size 52 5 (.slice (some ⟨V5.heap.size, 0, none⟩) 0 0) 0 []) ⟨below_step hb5 (below_alloc _ _), own_made V3.heap.size 52 5 (Below.size hb5)⟩ ?_
    rintro V6 ⟨hb6, ho6⟩
    refine wpAnyW_ready (rs := [2, 7]) (by kernel_rfl) (by simp) ?_
    refine AllReadyW.cons rfl (fun K hK => ?_) (AllReadyW.cons rfl (fun K hK => ?_) AllReadyW.nil)
    · refine step_appO bindT (by kernel_rfl) (.tmp 103) (.tmp 104) rfl V3.heap.size 0 [] _ ho6 A ne c cE (by rfl) (by rfl) HEL.out (HCE.out _ (below_step HB3W.out hb6)) HE1.out (by unfold maxLen; omega) (by omega) (Below.size hb6) ?_
      intro v1 V7 ho7 hg7 _
      have hb7 : Below V3.heap.size V3 V7 := hb6.grown hg7 (Below.size hb6) (fun j hj => (World.ownsRow.lt ho6 j hj).1)
      refine hK.out _ _ hb7 (fun _ => ?_)
      clear hK K
      try simp only [Act.put, List.getElem_toArray, List.getElem_cons_succ, List.getElem_cons_zero, List.setIfInBounds_toArray, List.set_cons_succ, List.set_cons_zero]
      refine wpAnyW_ready (rs := [7]) (by kernel_rfl) (by simp) ?_
      refine AllReadyW.cons rfl (fun K hK => ?_) AllReadyW.nil
      go_simp
      refine hK.out _ _ (below_step hb7 (below_alloc _ _)) (fun _ => ?_)
      clear hK K
      try simp only [Act.put, List.getElem_toArray, List.getElem_cons_succ, List.getElem_cons_zero, List.setIfInBounds_toArray, List.set_cons_succ, List.set_cons_zero]
      refine wpAnyW_world (fun V => Below V3.heap.size V3 V ∧ V.ownsRow V3.heap.size 52 5 v1 (0 + ne) ([] ++ cE) ∧ Cs V (some ⟨V7.heap.size, 0, none⟩) [.string ⟨s.toArray⟩, .int .i64 tk, .int .i64 ti, .string ⟨tn.toArray⟩, .slice tA tl tc] ∧ V7.heap.size < V.heap.size) ⟨below_step hb7 (below_alloc _ _), ho7.alloc _, blk_cs (Blk.new V7 52 #[.string ⟨s.toArray⟩, .int .i64 tk, .int .i64 ti, .string ⟨tn.toArray⟩, .slice tA tl tc]), by simp⟩ ?_
      rintro V8 ⟨hb8, ho8, hc8, hl8⟩
      refine wpAnyW_ready (rs := [8]) (by kernel_rfl) (by simp) ?_
      refine AllReadyW.consE rfl (by kernel_rfl) (fun K hK => ?_) AllReadyW.nil
      refine step_appO bindT (by kernel_rfl) (.tmp 105) (.tmp 110) rfl V3.heap.size (0 + ne) ([] ++ cE) v1 ho8 (some ⟨V7.heap.size, 0, none⟩) 1 1 [.string ⟨s.toArray⟩, .int .i64 tk, .int .i64 ti, .string ⟨tn.toArray⟩, .slice tA tl tc] (by rfl) (by rfl) (by rfl) hc8 (bc_one9 _ _ _ _ _ _ _) (by unfold maxLen; omega) (by omega) (Below.size hb8) ?_
      intro v2 VZ hoZ hgZ _
      have hbZ : Below V3.heap.size V3 VZ := hb8.grown hgZ (Below.size hb8) (fun j hj => (World.ownsRow.lt ho8 j hj).1)
      refine hK.out _ _ ?_
      clear hK K
      try simp only [Act.put, List.getElem_toArray, List.getElem_cons_succ, List.getElem_cons_zero, List.setIfInBounds_toArray, List.set_cons_succ, List.set_cons_zero]
      refine wpAnyW_ready (rs := [9]) (by kernel_rfl) (by simp) ?_
      refine AllReadyW.consE rfl (by kernel_rfl) (fun K hK => ?_) AllReadyW.nil
      go_simp
      refine hK.out _ _ ?_
      clear hK K
      try simp only [Act.put, List.getElem_toArray, List.getElem_cons_succ, List.getElem_cons_zero, List.setIfInBounds_toArray, List.set_cons_succ, List.set_cons_zero]
      refine wpAnyW_ready (rs := [10]) (by kernel_rfl) (by simp) ?_
      refine AllReadyW.consE rfl (by kernel_rfl) (fun K hK => ?_) AllReadyW.nil
      go_simp
      refine hK.out _ _ ?_
      clear hK K
      try simp only [Act.put, List.getElem_toArray, List.getElem_cons_succ, List.getElem_cons_zero, List.setIfInBounds_toArray, List.set_cons_succ, List.set_cons_zero]
      refine wpAnyW_done (by kernel_rfl) ?_ _
      obtain ⟨A2, c2, rfl, hend⟩ := HFIN.out _ VZ v2 (below_step HB3W.out hbZ) hoZ
      go_wp2
      refine bodyPost_ret (v := .tuple #[.slice A2 (ne + 1) c2, .bool true]) (by simp [results, Tryz.results32, go_sem]) rfl ?_
      exact hend
    · go_simp
      refine hK.out _ _ (below_step hb6 (below_alloc _ _)) (fun _ => ?_)
      clear hK K
      try simp only [Act.put, List.getElem_toArray, List.getElem_cons_succ, List.getElem_cons_zero, List.setIfInBounds_toArray, List.set_cons_succ, List.set_cons_zero]
      refine wpAnyW_world (fun V => Below V3.heap.size V3 V ∧ V.ownsRow V3.heap.size 52 5 (.slice (some ⟨V5.heap.size, 0, none⟩) 0 0) 0 [] ∧ Cs V (some ⟨V6.heap.size, 0, none⟩) [.string ⟨s.toArray⟩, .int .i64 tk, .int .i64 ti, .string ⟨tn.toArray⟩, .slice tA tl tc] ∧ V6.heap.size < V.heap.size) ⟨below_step hb6 (below_alloc _ _), ho6.alloc _, blk_cs (Blk.new V6 52 #[.string ⟨s.toArray⟩, .int .i64 tk, .int .i64 ti, .string ⟨tn.toArray⟩, .slice tA tl tc]), by simp⟩ ?_
      rintro V7 ⟨hb7, ho7, hc7, hl7⟩
      refine wpAnyW_ready (rs := [2]) (by kernel_rfl) (by simp) ?_
      refine AllReadyW.cons rfl (fun K hK => ?_) AllReadyW.nil
      refine step_appO bindT (by kernel_rfl) (.tmp 103) (.tmp 104) rfl V3.heap.size 0 [] _ ho7 A ne c cE (by rfl) (by rfl) HEL.out (HCE.out _ (below_step HB3W.out hb7)) HE1.out (by unfold maxLen; omega) (by omega) (Below.size hb7) ?_
      intro v1 V8 ho8 hg8 _
      have hb8 : Below V3.heap.size V3 V8 := hb7.grown hg8 (Below.size hb7) (fun j hj => (World.ownsRow.lt ho7 j hj).1)
      have hl9 : V5.heap.size < V6.heap.size := (World.ownsRow.lt ho6 _ rfl).2
      have hc8 := csB_grown hc7 hg8 (by intro a ha; injection ha with ha; subst ha; simp [Value.ownBlock]; try omega)
      refine hK.out _ _ hb8 (fun _ => ?_)
      clear hK K
      try simp only [Act.put, List.getElem_toArray, List.getElem_cons_succ, List.getElem_cons_zero, List.setIfInBounds_toArray, List.set_cons_succ, List.set_cons_zero]
      refine wpAnyW_ready (rs := [8]) (by kernel_rfl) (by simp) ?_
      refine AllReadyW.consE rfl (by kernel_rfl) (fun K hK => ?_) AllReadyW.nil
      refine step_appO bindT (by kernel_rfl) (.tmp 105) (.tmp 110) rfl V3.heap.size (0 + ne) ([] ++ cE) v1 ho8 (some ⟨V6.heap.size, 0, none⟩) 1 1 [.string ⟨s.toArray⟩, .int .i64 tk, .int .i64 ti, .string ⟨tn.toArray⟩, .slice tA tl tc] (by rfl) (by rfl) (by rfl) hc8 (bc_one9 _ _ _ _ _ _ _) (by unfold maxLen; omega) (by omega) (Below.size hb8) ?_
      intro v2 VZ hoZ hgZ _
      have hbZ : Below V3.heap.size V3 VZ := hb8.grown hgZ (Below.size hb8) (fun j hj => (World.ownsRow.lt ho8 j hj).1)
      refine hK.out _ _ ?_
      clear hK K
      try simp only [Act.put, List.getElem_toArray, List.getElem_cons_succ, List.getElem_cons_zero, List.setIfInBounds_toArray, List.set_cons_succ, List.set_cons_zero]
      refine wpAnyW_ready (rs := [9]) (by kernel_rfl) (by simp) ?_
      refine AllReadyW.consE rfl (by kernel_rfl) (fun K hK => ?_) AllReadyW.nil
      go_simp
      refine hK.out _ _ ?_
      clear hK K
      try simp only [Act.put, List.getElem_toArray, List.getElem_cons_succ, List.getElem_cons_zero, List.setIfInBounds_toArray, List.set_cons_succ, List.set_cons_zero]
      refine wpAnyW_ready (rs := [10]) (by kernel_rfl) (by simp) ?_
      refine AllReadyW.consE rfl (by kernel_rfl) (fun K hK => ?_) AllReadyW.nil
      go_simp
      refine hK.out _ _ ?_
      clear hK K
      try simp only [Act.put, List.getElem_toArray, List.getElem_cons_succ, List.getElem_cons_zero, List.setIfInBounds_toArray, List.set_cons_succ, List.set_cons_zero]
      refine wpAnyW_done (by kernel_rfl) ?_ _
      obtain ⟨A2, c2, rfl, hend⟩ := HFIN.out _ VZ v2 (below_step HB3W.out hbZ) hoZ
      go_wp2
      refine bodyPost_ret (v := .tuple #[.slice A2 (ne + 1) c2, .bool true]) (by simp [results, Tryz.results32, go_sem]) rfl ?_
      exact hend
  · go_simp
    refine hK.out _ _ (below_step hb5 (below_alloc _ _)) (fun _ => ?_)
    clear hK K
    try simp only [Act.put, List.getElem_toArray, List.getElem_cons_succ, List.getElem_cons_zero, List.setIfInBounds_toArray, List.set_cons_succ, List.set_cons_zero]
    refine wpAnyW_world (fun V => Below V3.heap.size V3 V ∧ Cs V (some ⟨V5.heap.size, 0, none⟩) [.string ⟨s.toArray⟩, .int .i64 tk, .int .i64 ti, .string ⟨tn.toArray⟩, .slice tA tl tc] ∧ V5.heap.size < V.heap.size) ⟨below_step hb5 (below_alloc _ _), blk_cs (Blk.new V5 52 #[.string ⟨s.toArray⟩, .int .i64 tk, .int .i64 ti, .string ⟨tn.toArray⟩, .slice tA tl tc]), by simp⟩ ?_
    rintro V6 ⟨hb6, hc6, hl6⟩
    refine wpAnyW_ready (rs := [0]) (by kernel_rfl) (by simp) ?_
    refine AllReadyW.cons rfl (fun K hK => ?_) AllReadyW.nil
    go_simp
    refine hK.out _ _ (below_step hb6 (below_alloc _ _)) (fun _ => ?_)
    clear hK K
    try simp only [Act.put, List.getElem_toArray, List.getElem_cons_succ, List.getElem_cons_zero, List.setIfInBounds_toArray, List.set_cons_succ, List.set_cons_zero]
    refine wpAnyW_world (fun V => Below V3.heap.size V3 V ∧ V.ownsRow V3.heap.size 52 5 (.slice (some ⟨V6.heap.size, 0, none⟩) 0 0) 0 [] ∧ Cs V (some ⟨V5.heap.size, 0, none⟩) [.string ⟨s.toArray⟩, .int .i64 tk, .int .i64 ti, .string ⟨tn.toArray⟩, .slice tA tl tc] ∧ V5.heap.size < V.heap.size) ⟨below_step hb6 (below_alloc _ _), own_made V3.heap.size 52 5 (Below.size hb6), csB_below hc6 (below_alloc _ _), by simp; omega⟩ ?_
    rintro V7 ⟨hb7, ho7, hc7, hl7⟩
    refine wpAnyW_ready (rs := [2]) (by kernel_rfl) (by simp) ?_
    refine AllReadyW.cons rfl (fun K hK => ?_) AllReadyW.nil
    refine step_appO bindT (by kernel_rfl) (.tmp 103) (.tmp 104) rfl V3.heap.size 0 [] _ ho7 A ne c cE (by rfl) (by rfl) HEL.out (HCE.out _ (below_step HB3W.out hb7)) HE1.out (by unfold maxLen; omega) (by omega) (Below.size hb7) ?_
    intro v1 V8 ho8 hg8 _
    have hb8 : Below V3.heap.size V3 V8 := hb7.grown hg8 (Below.size hb7) (fun j hj => (World.ownsRow.lt ho7 j hj).1)
    have hc8 := csB_grown hc7 hg8 (by intro a ha; injection ha with ha; subst ha; simp [Value.ownBlock]; try omega)
    refine hK.out _ _ hb8 (fun _ => ?_)
    clear hK K
    try simp only [Act.put, List.getElem_toArray, List.getElem_cons_succ, List.getElem_cons_zero, List.setIfInBounds_toArray, List.set_cons_succ, List.set_cons_zero]
    refine wpAnyW_ready (rs := [8]) (by kernel_rfl) (by simp) ?_
    refine AllReadyW.consE rfl (by kernel_rfl) (fun K hK => ?_) AllReadyW.nil
    refine step_appO bindT (by kernel_rfl) (.tmp 105) (.tmp 110) rfl V3.heap.size (0 + ne) ([] ++ cE) v1 ho8 (some ⟨V5.heap.size, 0, none⟩) 1 1 [.string ⟨s.toArray⟩, .int .i64 tk, .int .i64 ti, .string ⟨tn.toArray⟩, .slice tA tl tc] (by rfl) (by rfl) (by rfl) hc8 (bc_one9 _ _ _ _ _ _ _) (by unfold maxLen; omega) (by omega) (Below.size hb8) ?_
    intro v2 VZ hoZ hgZ _
    have hbZ : Below V3.heap.size V3 VZ := hb8.grown hgZ (Below.size hb8) (fun j hj => (World.ownsRow.lt ho8 j hj).1)
    refine hK.out _ _ ?_
    clear hK K
    try simp only [Act.put, List.getElem_toArray, List.getElem_cons_succ, List.getElem_cons_zero, List.setIfInBounds_toArray, List.set_cons_succ, List.set_cons_zero]
    refine wpAnyW_ready (rs := [9]) (by kernel_rfl) (by simp) ?_
    refine AllReadyW.consE rfl (by kernel_rfl) (fun K hK => ?_) AllReadyW.nil
    go_simp
    refine hK.out _ _ ?_
    clear hK K
    try simp only [Act.put, List.getElem_toArray, List.getElem_cons_succ, List.getElem_cons_zero, List.setIfInBounds_toArray, List.set_cons_succ, List.set_cons_zero]
    refine wpAnyW_ready (rs := [10]) (by kernel_rfl) (by simp) ?_
    refine AllReadyW.consE rfl (by kernel_rfl) (fun K hK => ?_) AllReadyW.nil
    go_simp
    refine hK.out _ _ ?_
    clear hK K
    try simp only [Act.put, List.getElem_toArray, List.getElem_cons_succ, List.getElem_cons_zero, List.setIfInBounds_toArray, List.set_cons_succ, List.set_cons_zero]
    refine wpAnyW_done (by kernel_rfl) ?_ _
    obtain ⟨A2, c2, rfl, hend⟩ := HFIN.out _ VZ v2 (below_step HB3W.out hbZ) hoZ
    go_wp2
    refine bodyPost_ret (v := .tuple #[.slice A2 (ne + 1) c2, .bool true]) (by simp [results, Tryz.results32, go_sem]) rfl ?_
    exact hend
end
end Go.Proofs.YtmpknhdfglbocaaGreat
