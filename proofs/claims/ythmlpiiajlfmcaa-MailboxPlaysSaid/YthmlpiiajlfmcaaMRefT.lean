/- The reference's box of layer 17: Take. -/
import Derived.Test.YthmlpiiajlfmcaaMRef
namespace Go.Proofs.Ythmlpiiajlfmcaa
open Go.RowKit
set_option linter.unusedVariables false

def RTakeEnds (w0 : World) (pr : Nat) (A : Option Addr) (cap : Nat) (es : List (TE w0)) (x : Int) (W : World) (r : Ending) (w' : World) : Prop :=
  ∃ t A' c', r = .returned (.tuple #[TV.aggOf t A' c', .int .i64 (takeE es.length x : Nat)]) ∧ t = takeT (es.map (·.t)) x ∧ RdM w0 A' c' t.items ∧ ∃ A2 cap2, RBox w0 pr A2 cap2 (takeL es x) w' ∧ Fr (fun k => k = pr) W w' ∧ ∀ g, (Value.slice A2 (takeL es x).length cap2).ownBlock = some g → (Value.slice A es.length cap).ownBlock = some g ∨ W.heap.size ≤ g

section
variable {w0 W W' : World} {pr : Nat} {A : Option Addr} {cap : Nat} {es : List (TE w0)}
set_option maxHeartbeats 1000000 in
theorem rtake_out (h : RBox w0 pr A cap es W) (i : Int) (hi : i < 0 ∨ (es.length : Int) ≤ i) :
    Calls Try.prog 16 #[.pointer (some ⟨pr, 0, none⟩), .int .i64 i] W fun e w' => e = .returned (.tuple #[.agg #[.int .i64 0, .int .i64 0, .string ⟨#[]⟩, .slice none 0 0], .int .i64 2]) ∧ Below W.heap.size W w' := by
  have c0 := h.obj.cell 0
  have hlt := h.obj.lt
  generalize es.length = n at *
  rcases Decidable.em (i < 0) with hi0 | hi0
  · have d1 : decide (i < 0) = true := by simpa using hi0
    go_enter Try.func16, Try.ntmps16
    go_wp2
    exact bodyPost_ret (v := .tuple #[.agg #[.int .i64 0, .int .i64 0, .string ⟨#[]⟩, .slice none 0 0], .int .i64 2]) (by simp [results, Try.results16, go_sem]) rfl ⟨rfl, below_alloc _ _⟩
  · have d1 : decide (i < 0) = false := by simpa using hi0
    have d2 : decide ((n : Int) ≤ i) = true := by simp; omega
    go_enter Try.func16, Try.ntmps16
    go_wp2
    exact bodyPost_ret (v := .tuple #[.agg #[.int .i64 0, .int .i64 0, .string ⟨#[]⟩, .slice none 0 0], .int .i64 2]) (by simp [results, Try.results16, go_sem]) rfl ⟨rfl, below_alloc _ _⟩

structure RK (w0 : World) (pr : Nat) (A : Option Addr) (cap rb tb : Nat) (es : List (TE w0)) (e : TE w0) (W V : World) : Prop where
  box : RBox w0 pr A cap es V
  r : Blk V rb 35 zero4.toArray
  t : Blk V tb 35 e.cells.toArray
  bel : Below W.heap.size W V
theorem RK.keep {rb tb : Nat} {e : TE w0} {V V' : World} (h : RK w0 pr A cap rb tb es e W V) (hb : Below V.heap.size V V') : RK w0 pr A cap rb tb es e W V' :=
  ⟨h.box.keep hb, h.r.keep hb, h.t.keep hb, below_step h.bel hb⟩

set_option maxRecDepth 100000 in
set_option maxHeartbeats 4000000 in
theorem rtake_in (h : RBox w0 pr A cap es W) (i : Nat) (hi : i < es.length) :
    Calls Try.prog 16 #[.pointer (some ⟨pr, 0, none⟩), .int .i64 (i : Int)] W fun r w' => r = .returned (.tuple #[es[i].agg, .int .i64 0]) ∧ ∃ A2 cap2, RBox w0 pr A2 cap2 (es.eraseIdx i) w' ∧ Fr (fun k => k = pr) W w' ∧ ∀ g, (Value.slice A2 (es.eraseIdx i).length cap2).ownBlock = some g → W.heap.size ≤ g := by
  obtain ⟨g, tl, rfl, hg0, hgB, hnc, hcm, hcl⟩ := own_open h.row (by omega)
  obtain ⟨n, hn⟩ : ∃ n, es.length = n := ⟨_, rfl⟩
  have HN := Lib.hid hn
  have hbl := h.ok.len
  have hoc := own_cell h.row hi
  have hpl := h.obj.lt
  have hgl := hgB.lt
  have hlo := h.lo
  have hok : BOk (es.eraseIdx i) := h.ok.erase i hi
  have HOK := Lib.hid hok
  have HEL := Lib.hid (show (es.eraseIdx i).length = i + (n - (i + 1)) by rw [List.length_eraseIdx_of_lt hi, hn]; omega)
  have her : cellsL (es.eraseIdx i) = cellsL (es.take i) ++ cellsL (es.drop (i + 1)) := by rw [List.eraseIdx_eq_take_drop_succ, cellsL_append]
  have HER := Lib.hid her
  have hT0 : RK w0 pr (some ⟨g, 0, none⟩) cap W.heap.size (W.heap.size + 1) es es[i] W ((W.alloc (.cells zero4.toArray 35)).alloc (.cells es[i].cells.toArray 35)) := by
    have hbn := Blk.new (W.alloc (.cells zero4.toArray 35)) 35 es[i].cells.toArray
    rw [show (W.alloc (.cells zero4.toArray 35)).heap.size = W.heap.size + 1 by simp] at hbn
    exact ⟨h.keep (below_step (below_alloc _ _) (below_alloc _ _)), (Blk.new _ _ _).alloc _, hbn, below_step (below_alloc _ _) (below_alloc _ _)⟩
  have HT0 := Lib.hid hT0
  have HTE : Hid (∀ V tb, Blk V tb 35 es[i].cells.toArray → V.cell? ⟨tb, 0, none⟩ = some (.int .i64 es[i].t.kind) ∧ V.cell? ⟨tb, 1, none⟩ = some (.int .i64 es[i].t.int) ∧ V.cell? ⟨tb, 2, none⟩ = some (.string ⟨es[i].t.name.toArray⟩) ∧ V.cell? ⟨tb, 3, none⟩ = some (.slice es[i].A es[i].t.items.length es[i].c)) := fun V tb hb => ⟨hb.cell 0, hb.cell 1, hb.cell 2, hb.cell 3⟩
  have HAG : Hid (es[i].agg = .agg #[.int .i64 es[i].t.kind, .int .i64 es[i].t.int, .string ⟨es[i].t.name.toArray⟩, .slice es[i].A es[i].t.items.length es[i].c]) := rfl
  have hc0 : W.cell? ⟨pr, 0, none⟩ = some (.slice (some ⟨g, 0, none⟩) n cap) := by rw [← hn]; exact h.obj.cell 0
  -- what the two slices read
  obtain ⟨A3, hA3, hcs3⟩ : ∃ A3 : Addr, (if cap = i + 1 then some (⟨g, 0, none⟩ : Addr) else some ⟨g, (i + 1) * 4, none⟩) = some A3 ∧ ∀ V, Blk V g 35 (cellsL es ++ tl).toArray → Cs V (some A3) (cellsL (es.drop (i + 1))) := by
    by_cases hc : cap = i + 1
    · refine ⟨⟨g, 0, none⟩, by simp [hc], fun V hV => .inl ?_⟩
      rw [List.drop_eq_nil_of_le (by omega)]
      rfl
    · refine ⟨⟨g, (i + 1) * 4, none⟩, by simp [hc], fun V hV => .inr ⟨_, rfl, fun t u hu => ?_⟩⟩
      rw [Addr.add_lit, hV.cell, ← cellsL_drop] at *
      rw [List.getElem?_drop] at hu
      simp only [List.getElem?_toArray]
      rw [List.getElem?_append_left (List.getElem?_eq_some_iff.1 hu).1]
      exact hu
  have hcs2 : ∀ V, Blk V g 35 (cellsL es ++ tl).toArray → Cs V (some ⟨g, 0, none⟩) (cellsL (es.take i)) := fun V hV => .inr ⟨_, rfl, fun t u hu => by
    rw [Addr.add_lit, Nat.zero_add, hV.cell]
    rw [← cellsL_take, List.getElem?_take] at hu
    split at hu
    · simp only [List.getElem?_toArray]
      rw [List.getElem?_append_left (List.getElem?_eq_some_iff.1 hu).1]
      exact hu
    · cases hu⟩
  have HCS3 := Lib.hid hcs3
  have HCS2 := Lib.hid hcs2
  have HGB : Hid (∀ V, Below W.heap.size W V → Blk V g 35 (cellsL es ++ tl).toArray) := fun V hV => hgB.keep hV
  have HL2 := Lib.hid (show (cellsL (es.take i)).length = i * 4 by rw [cellsL_len, List.length_take]; omega)
  have HL3 := Lib.hid (show (cellsL (es.drop (i + 1))).length = (n - (i + 1)) * 4 by rw [cellsL_len, List.length_drop, hn])
  have hin : i < n := by omega
  rw [hn] at hbl
  have d1 : decide ((i : Int) < 0) = false := by simp
  have d2 : decide (n ≤ i) = false := by simp; omega
  have q1 : (0 : Int) ≤ (i : Int) := by omega
  have q2 : (i : Int) < (n : Int) := by omega
  obtain ⟨z0, z1, z2, z3⟩ := hoc
  have hwsz := h.bel.size
  have hrne : W.heap.size ≠ pr := by omega
  have hpl2 := Lib.hid hpl
  have hnc' : n ≤ cap := by omega
  have hcm' : cap ≤ 9223372036854775807 := by unfold maxLen at hcm; omega
  clear h her hok hn hcs2 hcs3 hgB hT0 hcl hnc hcm
  generalize es[i] = e at *
  clear hi
  go_enter Try.func16, Try.ntmps16
  go_upto_region 4 with (fail)
  refine wp_world (RK w0 pr (some ⟨g, 0, none⟩) cap W.heap.size (W.heap.size + 1) es e W) HT0.out ?_
  clear z0 z1 z2 z3 hc0 HT0
  intro V0 hT0
  have HT := Lib.hid hT0
  have hb0 := hT0.bel
  have HSC : Hid (∀ V, Below V0.heap.size V0 V → V.cell? ⟨pr, 0, none⟩ = some (.slice (some ⟨g, 0, none⟩) n cap)) := fun V hV => by rw [← HN.out]; exact (HT.out.keep hV).box.obj.cell 0
  have HPF : Hid (∀ V, Below V0.heap.size V0 V → V.frozen? ⟨pr, 0, none⟩ = false) := fun V hV => (HT.out.keep hV).box.obj.frozen 0
  have HC2 : Hid (∀ V, Below V0.heap.size V0 V → Cs V (some ⟨g, 0, none⟩) (cellsL (es.take i))) := fun V hV => HCS2.out V (HGB.out V (below_step HT.out.bel hV))
  have HC3 : Hid (∀ V, Below V0.heap.size V0 V → Cs V (some A3) (cellsL (es.drop (i + 1)))) := fun V hV => HCS3.out V (HGB.out V (below_step HT.out.bel hV))
  have hmm : 0 + i + (n - (i + 1)) = i + (n - (i + 1)) := by omega
  have HFIN : Hid (∀ V A2 c2, Below V0.heap.size V0 V → V.ownsRow V0.heap.size 35 4 (.slice A2 (i + (n - (i + 1))) c2) (i + (n - (i + 1))) (cellsL (es.take i) ++ cellsL (es.drop (i + 1))) → RBox w0 pr A2 c2 (es.eraseIdx i) (V.setCell ⟨pr, 0, none⟩ (.slice A2 (i + (n - (i + 1))) c2)) ∧ Fr (fun k => k = pr) W (V.setCell ⟨pr, 0, none⟩ (.slice A2 (i + (n - (i + 1))) c2)) ∧ (∀ g, (Value.slice A2 (es.eraseIdx i).length c2).ownBlock = some g → W.heap.size < g) ∧ Blk (V.setCell ⟨pr, 0, none⟩ (.slice A2 (i + (n - (i + 1))) c2)) W.heap.size 35 zero4.toArray ∧ Blk (V.setCell ⟨pr, 0, none⟩ (.slice A2 (i + (n - (i + 1))) c2)) (W.heap.size + 1) 35 e.cells.toArray) := fun V A2 c2 hb ho => by
    have hPV := HT.out.keep hb
    have hlt := hpl2.out
    have hs0 := HT.out.bel.size
    have hne : ∀ g, (Value.slice A2 (i + (n - (i + 1))) c2).ownBlock = some g → V0.heap.size ≤ g := fun g hg => (World.ownsRow.lt ho g hg).1
    have hfr : Fr (fun k => k = pr) W (V.setCell ⟨pr, 0, none⟩ (.slice A2 (i + (n - (i + 1))) c2)) := (Fr.of_below hPV.bel _).same (Fr.setCell (fun k => k = pr) _ (p := ⟨pr, 0, none⟩) (fun _ => rfl) _)
    refine ⟨?_, hfr, ?_, hPV.r.far (p := ⟨pr, 0, none⟩) hrne _, hPV.t.far (p := ⟨pr, 0, none⟩) (by simp; omega) _⟩
    · refine ⟨?_, ?_, ?_, hlo, HOK.out⟩
      · rw [HEL.out]; exact hPV.box.obj.set_ 0 _
      · rw [HEL.out, HER.out]
        refine (own_lower ho (by omega)).kept (grown_setCell (grown_refl _ (some pr)) (p := ⟨pr, 0, none⟩) (.inl rfl) _) ?_
        cases hq : (Value.slice A2 (i + (n - (i + 1))) c2).ownBlock with
        | none => exact .inl rfl
        | some g => exact .inr (fun e9 => by have := hne g hq; injection e9 with e9; omega)
      · exact Below.setCell hPV.box.bel hlo _
    · rw [HEL.out]
      exact fun g hg => by have := hne g hg; have := HT.out.t.lt; omega
  have HO0 := Lib.hid (own_made (W := V0.drew) V0.heap.size 35 4 (Nat.le_refl _))
  have HMM := Lib.hid hmm
  have hic : i ≤ cap := by omega
  have hjc : i + 1 ≤ cap := by omega
  have hjn : i + 1 ≤ n := by omega
  have hine : i ≠ i + 1 := by omega
  have y1 : (0 : Int) ≤ (i : Int) + 1 := by omega
  have y2 : (i : Int) + 1 ≤ (n : Int) := by omega
  have qw : IntKind.i64.wrap ((i : Int) + 1) = ((i + 1 : Nat) : Int) := IntWalk.i64_in _ (by omega)
  have qi : (i : Int) ≤ (cap : Int) := by omega
  clear hT0 hmm
  refine wp_region_W 19 (fun V => Below V0.heap.size V0 V) (by kernel_rfl) ?_ (fun hS0 => ?_)
  · exact (Below.refl _ _).drew
  (refine wpAnyW_take (i := 0) (v := ?_) rfl (by kernel_rfl) (by kernel_rfl) (by kernel_rfl) (by kernel_rfl) (fun _ _ _ h => h) (Or.inl ⟨by kernel_rfl, ?_⟩) (by assumption) ?_; rotate_left; focus (intro V9 hS9; go_simp; (try (with_reducible rfl)); done))
  try simp only [Act.put, List.getElem_toArray, List.getElem_cons_zero, List.setIfInBounds_toArray, List.set_cons_succ, List.set_cons_zero]
  (refine wpAnyW_take (i := 2) (v := ?_) rfl (by kernel_rfl) (by kernel_rfl) (by kernel_rfl) (by kernel_rfl) (fun _ _ _ h => h) (Or.inl ⟨by kernel_rfl, ?_⟩) (by assumption) ?_; rotate_left; focus (intro V9 hS9; go_simp; (try (with_reducible rfl)); done))
  try simp only [Act.put, List.getElem_toArray, List.getElem_cons_succ, List.getElem_cons_zero, List.setIfInBounds_toArray, List.set_cons_succ, List.set_cons_zero]
  (refine wpAnyW_take (i := 3) (v := ?_) rfl (by kernel_rfl) (by kernel_rfl) (by kernel_rfl) (by kernel_rfl) (fun _ _ _ h => h) (Or.inl ⟨by kernel_rfl, ?_⟩) (by assumption) ?_; rotate_left; focus (intro V9 hS9; go_simp; (try (with_reducible rfl)); done))
  try simp only [Act.put, List.getElem_toArray, List.getElem_cons_succ, List.getElem_cons_zero, List.setIfInBounds_toArray, List.set_cons_succ, List.set_cons_zero]
  (refine wpAnyW_take (i := 4) (v := ?_) rfl (by kernel_rfl) (by kernel_rfl) (by kernel_rfl) (by kernel_rfl) (fun _ _ _ h => h) (Or.inl ⟨by kernel_rfl, ?_⟩) (by assumption) ?_; rotate_left; focus (intro V9 hS9; go_simp; (try (with_reducible rfl)); done))
  try simp only [Act.put, List.getElem_toArray, List.getElem_cons_succ, List.getElem_cons_zero, List.setIfInBounds_toArray, List.set_cons_succ, List.set_cons_zero]
  (refine wpAnyW_take (i := 5) (v := ?_) rfl (by kernel_rfl) (by kernel_rfl) (by kernel_rfl) (by kernel_rfl) (fun _ _ _ h => h) (Or.inl ⟨by kernel_rfl, ?_⟩) (by assumption) ?_; rotate_left; focus (intro V9 hS9; have g0 := HSC.out V9 hS9; go_simp; (try (with_reducible rfl)); done))
  try simp only [Act.put, List.getElem_toArray, List.getElem_cons_succ, List.getElem_cons_zero, List.setIfInBounds_toArray, List.set_cons_succ, List.set_cons_zero]
  (refine wpAnyW_take (i := 6) (v := ?_) rfl (by kernel_rfl) (by kernel_rfl) (by kernel_rfl) (by kernel_rfl) (fun _ _ _ h => h) (Or.inl ⟨by kernel_rfl, ?_⟩) (by assumption) ?_; rotate_left; focus (intro V9 hS9; go_simp; (try (with_reducible rfl)); done))
  try simp only [Act.put, List.getElem_toArray, List.getElem_cons_succ, List.getElem_cons_zero, List.setIfInBounds_toArray, List.set_cons_succ, List.set_cons_zero]
  (refine wpAnyW_take (i := 7) (v := ?_) rfl (by kernel_rfl) (by kernel_rfl) (by kernel_rfl) (by kernel_rfl) (fun _ _ _ h => h) (Or.inl ⟨by kernel_rfl, ?_⟩) (by assumption) ?_; rotate_left; focus (intro V9 hS9; go_simp; (try (with_reducible rfl)); done))
  try simp only [Act.put, List.getElem_toArray, List.getElem_cons_succ, List.getElem_cons_zero, List.setIfInBounds_toArray, List.set_cons_succ, List.set_cons_zero]
  (refine wpAnyW_take (i := 9) (v := ?_) rfl (by kernel_rfl) (by kernel_rfl) (by kernel_rfl) (by kernel_rfl) (fun _ _ _ h => h) (Or.inl ⟨by kernel_rfl, ?_⟩) (by assumption) ?_; rotate_left; focus (intro V9 hS9; go_simp; (try (with_reducible rfl)); done))
  try simp only [Act.put, List.getElem_toArray, List.getElem_cons_succ, List.getElem_cons_zero, List.setIfInBounds_toArray, List.set_cons_succ, List.set_cons_zero]
  (refine wpAnyW_take (i := 10) (v := ?_) rfl (by kernel_rfl) (by kernel_rfl) (by kernel_rfl) (by kernel_rfl) (fun _ _ _ h => h) (Or.inl ⟨by kernel_rfl, ?_⟩) (by assumption) ?_; rotate_left; focus (intro V9 hS9; go_simp; (try (with_reducible rfl)); done))
  try simp only [Act.put, List.getElem_toArray, List.getElem_cons_succ, List.getElem_cons_zero, List.setIfInBounds_toArray, List.set_cons_succ, List.set_cons_zero]
  (refine wpAnyW_take (i := 11) (v := ?_) rfl (by kernel_rfl) (by kernel_rfl) (by kernel_rfl) (by kernel_rfl) (fun _ _ _ h => h) (Or.inl ⟨by kernel_rfl, ?_⟩) (by assumption) ?_; rotate_left; focus (intro V9 hS9; go_simp; (try (with_reducible rfl)); done))
  try simp only [Act.put, List.getElem_toArray, List.getElem_cons_succ, List.getElem_cons_zero, List.setIfInBounds_toArray, List.set_cons_succ, List.set_cons_zero]
  (refine wpAnyW_take (i := 12) (v := ?_) rfl (by kernel_rfl) (by kernel_rfl) (by kernel_rfl) (by kernel_rfl) (fun _ _ _ h => h) (Or.inl ⟨by kernel_rfl, ?_⟩) (by assumption) ?_; rotate_left; focus (intro V9 hS9; have g0 := HSC.out V9 hS9; go_simp; (try (with_reducible rfl)); done))
  try simp only [Act.put, List.getElem_toArray, List.getElem_cons_succ, List.getElem_cons_zero, List.setIfInBounds_toArray, List.set_cons_succ, List.set_cons_zero]
  (refine wpAnyW_take (i := 13) (v := ?_) rfl (by kernel_rfl) (by kernel_rfl) (by kernel_rfl) (by kernel_rfl) (fun _ _ _ h => h) (Or.inl ⟨by kernel_rfl, ?_⟩) (by assumption) ?_; rotate_left; focus (intro V9 hS9; go_simp; (try (with_reducible rfl)); done))
  try simp only [Act.put, List.getElem_toArray, List.getElem_cons_succ, List.getElem_cons_zero, List.setIfInBounds_toArray, List.set_cons_succ, List.set_cons_zero]
  (refine wpAnyW_take (i := 14) (v := ?_) rfl (by kernel_rfl) (by kernel_rfl) (by kernel_rfl) (by kernel_rfl) (fun _ _ _ h => h) (Or.inl ⟨by kernel_rfl, ?_⟩) (by assumption) ?_; rotate_left; focus (intro V9 hS9; go_simp; (try (with_reducible rfl)); done))
  try simp only [Act.put, List.getElem_toArray, List.getElem_cons_succ, List.getElem_cons_zero, List.setIfInBounds_toArray, List.set_cons_succ, List.set_cons_zero]
  (refine wpAnyW_take (i := 15) (v := ?_) rfl (by kernel_rfl) (by kernel_rfl) (by kernel_rfl) (by kernel_rfl) (fun _ _ _ h => h) (Or.inl ⟨by kernel_rfl, ?_⟩) (by assumption) ?_; rotate_left; focus (intro V9 hS9; go_simp; (try (with_reducible rfl)); done))
  try simp only [Act.put, List.getElem_toArray, List.getElem_cons_succ, List.getElem_cons_zero, List.setIfInBounds_toArray, List.set_cons_succ, List.set_cons_zero]
  refine wpAnyW_ready (rs := [1]) (by kernel_rfl) (by simp) ?_
  refine AllReadyW.cons rfl (fun K hK => ?_) AllReadyW.nil
  go_simp
  refine hK.out _ _ (below_step hS0 (below_alloc _ _)) (fun _ => ?_)
  clear hK K
  try simp only [Act.put, List.getElem_toArray, List.getElem_cons_succ, List.getElem_cons_zero, List.setIfInBounds_toArray, List.set_cons_succ, List.set_cons_zero]
  refine wpAnyW_world (fun V => Below V0.heap.size V0 V ∧ V.ownsRow V0.heap.size 35 4 (.slice (some ⟨V0.heap.size, 0, none⟩) 0 0) 0 []) ⟨below_step hS0 (below_alloc _ _), HO0.out⟩ ?_
  rintro VA ⟨hbA, hoA⟩
  refine wpAnyW_ready (rs := [8]) (by kernel_rfl) (by simp) ?_
  refine AllReadyW.cons rfl (fun K hK => ?_) AllReadyW.nil
  refine step_appO termsT (by kernel_rfl) (.tmp 27) (.tmp 33) rfl V0.heap.size 0 [] _ hoA (some ⟨g, 0, none⟩) i cap (cellsL (es.take i)) (by rfl) (by rfl) HL2.out (HC2.out _ hbA) (cellsL_one' _) (by unfold maxLen; omega) (by omega) (Below.size hbA) ?_
  intro v1 VB hoB hgB _
  have hbB : Below V0.heap.size V0 VB := own_grow hoA hbA hgB (Below.size hbA)
  refine hK.out _ _ hbB (fun _ => ?_)
  clear hK K
  try simp only [Act.put, List.getElem_toArray, List.getElem_cons_succ, List.getElem_cons_zero, List.setIfInBounds_toArray, List.set_cons_succ, List.set_cons_zero]
  refine wpAnyW_ready (rs := [16]) (by kernel_rfl) (by simp) ?_
  refine AllReadyW.cons rfl (fun K hK => ?_) AllReadyW.nil
  refine step_appO termsT (by kernel_rfl) (.tmp 34) (.tmp 41) rfl V0.heap.size (0 + i) ([] ++ cellsL (es.take i)) v1 hoB (some A3) (n - (i + 1)) (cap - (i + 1)) (cellsL (es.drop (i + 1))) (by rfl) (by rfl) HL3.out (HC3.out _ hbB) (cellsL_one' _) (by unfold maxLen; omega) (by omega) (Below.size hbB) ?_
  intro v2 VD hoD hgD _
  have hbD : Below V0.heap.size V0 VD := own_grow hoB hbB hgD (Below.size hbB)
  refine hK.out _ _ hbD (fun _ => ?_)
  clear hK K
  try simp only [Act.put, List.getElem_toArray, List.getElem_cons_succ, List.getElem_cons_zero, List.setIfInBounds_toArray, List.set_cons_succ, List.set_cons_zero]
  rw [HMM.out, List.nil_append] at hoD
  obtain ⟨A2, c2, rfl⟩ := own_form hoD
  (refine wpAnyW_take (i := 17) (v := ?_) rfl (by kernel_rfl) (by kernel_rfl) (by kernel_rfl) (by kernel_rfl) (fun _ _ _ h => h) (Or.inl ⟨by kernel_rfl, ?_⟩) (by assumption) ?_; rotate_left; focus (intro V9 hS9; go_simp; (try (with_reducible rfl)); done))
  try simp only [Act.put, List.getElem_toArray, List.getElem_cons_succ, List.getElem_cons_zero, List.setIfInBounds_toArray, List.set_cons_succ, List.set_cons_zero]
  (refine wpAnyW_take (i := 18) (v := ?_) rfl (by kernel_rfl) (by kernel_rfl) (by kernel_rfl) (by kernel_rfl) (fun _ _ _ h => h) (Or.inl ⟨by kernel_rfl, ?_⟩) (by assumption) ?_; rotate_left; focus (intro V9 hS9; go_simp; (try (with_reducible rfl)); done))
  try simp only [Act.put, List.getElem_toArray, List.getElem_cons_succ, List.getElem_cons_zero, List.setIfInBounds_toArray, List.set_cons_succ, List.set_cons_zero]
  refine wpAnyW_ready (rs := [19]) (by kernel_rfl) (by simp) ?_
  refine AllReadyW.consE rfl (by kernel_rfl) (fun K hK => ?_) AllReadyW.nil
  have hfz := HPF.out VD hbD
  have gc := HSC.out VD hbD
  go_simp
  refine hK.out _ _ ?_
  clear hK K
  refine wpAnyW_done (by kernel_rfl) ?_ _
  obtain ⟨hF1, hF2, hF3, hF4, hF5⟩ := HFIN.out VD _ c2 hbD hoD
  go_upto_region 5 with (fail)
  refine wp_world (fun V => RBox w0 pr A2 c2 (es.eraseIdx i) V ∧ Fr (fun k => k = pr) W V ∧ Blk V W.heap.size 35 zero4.toArray ∧ Blk V (W.heap.size + 1) 35 e.cells.toArray) ⟨hF1, hF2, hF4, hF5⟩ ?_
  clear hF1 hF2 hF4 hF5 hfz gc hbD hoD hgD hbB hoB hgB hbA hoA hb0 HO0 HMM
  rintro V6 ⟨hB6, hf6, hr6, ht6⟩
  obtain ⟨t0, t1, t2, t3⟩ := HTE.out _ _ ht6
  have r0 : V6.cell? ⟨W.heap.size, 0, none⟩ = some (.int .i64 0) := hr6.cell 0
  have r1 : V6.cell? ⟨W.heap.size, 1, none⟩ = some (.int .i64 0) := hr6.cell 1
  have r2 : V6.cell? ⟨W.heap.size, 2, none⟩ = some (.string ⟨#[]⟩) := hr6.cell 2
  have r3 : V6.cell? ⟨W.heap.size, 3, none⟩ = some (.slice none 0 0) := hr6.cell 3
  have f0 := hr6.frozen 0
  have f1 := hr6.frozen 1
  have f2 := hr6.frozen 2
  have f3 := hr6.frozen 3
  go_wp2
  refine bp_world (fun V => V = set4 V6 W.heap.size 0 (.int .i64 e.t.kind) (.int .i64 e.t.int) (.string ⟨e.t.name.toArray⟩) (.slice e.A e.t.items.length e.c)) rfl ?_
  intro V7 hV7
  have hB7 : Blk V7 W.heap.size 35 e.cells.toArray := by
    rw [hV7]
    exact set4_blk hr6 0 _ _ _ _
  obtain ⟨x0, x1, x2, x3⟩ := HTE.out _ _ hB7
  have hf7 : Fr (fun k => k = W.heap.size) V6 V7 := by rw [hV7]; exact set4_fr _ _ _ _ _ _ _
  have hE : RBox w0 pr A2 c2 (es.eraseIdx i) V7 ∧ Fr (fun k => k = pr) W V7 := by
    refine ⟨⟨hf7.blk hB6.obj (fun e9 => hrne e9.symm), ?_, hB6.bel.trans (hf7.below hB6.bel.size (fun k e9 => by rw [e9]; exact hwsz)), hlo, hB6.ok⟩, hf6.trans hf7 (fun k hk e9 => absurd hk (by rw [e9]; exact Nat.lt_irrefl _))⟩
    refine hB6.row.kept (row := some W.heap.size) ⟨hf7.os, hf7.tape, hf7.output, hf7.size, fun k hk hne => hf7.block k hk (fun e9 => hne (by rw [e9]))⟩ ?_
    cases hq : (Value.slice A2 (es.eraseIdx i).length c2).ownBlock with
    | none => exact .inl rfl
    | some g9 =>
      refine .inr (fun e9 => ?_)
      injection e9 with e9
      subst e9
      exact absurd (hF3 _ hq) (Nat.lt_irrefl _)
  clear hV7 hB7 t0 t1 t2 t3 r0 r1 r2 r3 f0 f1 f2 f3 hB6 hr6 ht6
  rw [HAG.out]
  exact bodyPost_ret (v := .tuple #[.agg #[.int .i64 e.t.kind, .int .i64 e.t.int, .string ⟨e.t.name.toArray⟩, .slice e.A e.t.items.length e.c], .int .i64 0]) (by simp [results, Try.results16, go_sem, x0, x1, x2, x3]) rfl ⟨rfl, A2, c2, hE.1, hE.2, fun g hg => Nat.le_of_lt (hF3 g hg)⟩
theorem rtake_any (h : RBox w0 pr A cap es W) (x : Int) :
    Calls Try.prog 16 #[.pointer (some ⟨pr, 0, none⟩), .int .i64 x] W (RTakeEnds w0 pr A cap es x W) := by
  by_cases hx : 0 ≤ x ∧ x < es.length
  · obtain ⟨i, rfl⟩ : ∃ i : Nat, x = (i : Int) := ⟨x.toNat, by omega⟩
    have hi : i < es.length := by omega
    refine (rtake_in h i hi).mono fun r w' ⟨hr, A2, c2, hb, hf, ho⟩ => ⟨es[i].t, es[i].A, es[i].c, ?_, ?_, es[i].ok, A2, c2, ?_, hf, ?_⟩
    · rw [hr, takeE, if_pos hx]; rfl
    · rw [takeT, List.length_map, if_pos hx]
      simp [List.getD_eq_getElem?_getD, List.getElem?_eq_getElem hi]
    · rw [takeL, if_pos hx]; exact hb
    · rw [takeL, if_pos hx]; exact fun g hg => .inr (ho g hg)
  · refine (rtake_out h x (by omega)).mono fun r w' ⟨hr, hb⟩ => ⟨zt, none, 0, ?_, ?_, ⟨Nat.le_refl _, by omega, .inl rfl⟩, A, cap, ?_, Fr.of_below hb _, ?_⟩
    · rw [hr, takeE, if_neg hx]; rfl
    · rw [takeT, List.length_map, if_neg hx]
    · rw [takeL, if_neg hx]; exact h.keep hb
    · rw [takeL, if_neg hx]; exact fun g hg => .inl hg
end
end Go.Proofs.Ythmlpiiajlfmcaa
