/- The box of layer 17 in memory: its row of terms is of the call's own; their items lie in old memory. -/
import Derived.Test.YthmlpiiajlfmcaaTermY
namespace Go.Proofs.Ythmlpiiajlfmcaa
open Go.RowKit
set_option linter.unusedVariables false

/-- A term with its items' slice in old memory. -/
structure TE (w0 : World) where
  t : TV
  A : Option Addr
  c : Nat
  ok : RdM w0 A c t.items
def TE.cells {w0 : World} (e : TE w0) : List Value := [.int .i64 e.t.kind, .int .i64 e.t.int, .string ⟨e.t.name.toArray⟩, .slice e.A e.t.items.length e.c]
def TE.agg {w0 : World} (e : TE w0) : Value := .agg #[.int .i64 e.t.kind, .int .i64 e.t.int, .string ⟨e.t.name.toArray⟩, .slice e.A e.t.items.length e.c]
def zero4 : List Value := [.int .i64 0, .int .i64 0, .string ⟨#[]⟩, .slice none 0 0]
def cellsL {w0 : World} : List (TE w0) → List Value
  | [] => []
  | e :: r => e.cells ++ cellsL r
section
variable {w0 W W' : World}
theorem TE.cells_len (e : TE w0) : e.cells.length = 4 := rfl
theorem cellsL_len (es : List (TE w0)) : (cellsL es).length = es.length * 4 := by
  induction es with
  | nil => rfl
  | cons e r ih => simp [cellsL, TE.cells_len, ih]; omega
theorem cellsL_append (es fs : List (TE w0)) : cellsL (es ++ fs) = cellsL es ++ cellsL fs := by
  induction es with
  | nil => rfl
  | cons e r ih => simp [cellsL, ih]
theorem cellsL_one (e : TE w0) : cellsL [e] = e.cells := by simp [cellsL]
theorem cells_one (e : TE w0) : ∀ u ∈ e.cells, u.oneCell' = true := by
  intro u hu
  simp only [TE.cells, List.mem_cons, List.mem_nil_iff, or_false] at hu
  rcases hu with rfl | rfl | rfl | rfl <;> rfl
theorem cellsL_one' (es : List (TE w0)) : ∀ u ∈ cellsL es, u.oneCell' = true := by
  induction es with
  | nil => intro u hu; simp [cellsL] at hu
  | cons e r ih =>
    intro u hu
    simp only [cellsL, List.mem_append] at hu
    rcases hu with h | h
    · exact cells_one e u h
    · exact ih u h
theorem cellsL_at : ∀ (es : List (TE w0)) (k i : Nat) (h : k < es.length), i < 4 → (cellsL es)[k * 4 + i]? = es[k].cells[i]?
  | e :: r, 0, i, _, hi => by
    simp only [cellsL, Nat.zero_mul, Nat.zero_add, List.getElem_cons_zero]
    rw [List.getElem?_append_left (by rw [TE.cells_len]; exact hi)]
  | e :: r, k + 1, i, h, hi => by
    simp only [cellsL, List.getElem_cons_succ]
    rw [List.getElem?_append_right (by rw [TE.cells_len]; omega), TE.cells_len, show (k + 1) * 4 + i - 4 = k * 4 + i by omega]
    exact cellsL_at r k i (by simpa using h) hi
  | [], _, _, h, _ => by simp at h
theorem cellsL_take (es : List (TE w0)) (k : Nat) : (cellsL es).take (k * 4) = cellsL (es.take k) := by
  induction es generalizing k with
  | nil => simp [cellsL]
  | cons e r ih =>
    cases k with
    | zero => simp [cellsL]
    | succ k =>
      simp only [cellsL, List.take_succ_cons]
      rw [show (k + 1) * 4 = e.cells.length + k * 4 by rw [TE.cells_len]; omega, List.take_length_add_append, ih]
theorem cellsL_drop (es : List (TE w0)) (k : Nat) : (cellsL es).drop (k * 4) = cellsL (es.drop k) := by
  induction es generalizing k with
  | nil => simp [cellsL]
  | cons e r ih =>
    cases k with
    | zero => simp [cellsL]
    | succ k =>
      simp only [cellsL, List.drop_succ_cons]
      rw [show (k + 1) * 4 = e.cells.length + k * 4 by rw [TE.cells_len]; omega, List.drop_length_add_append, ih]

/-- A row of the call's own reads as its terms. -/
theorem rdm_of_own {base n cap : Nat} {A : Option Addr} {es : List (TE w0)} (ho : W.ownsRow base 35 4 (.slice A n cap) n (cellsL es)) (hn : es.length = n) (hb : Below w0.heap.size w0 W) : RdM W A cap (es.map (·.t)) := by
  rcases ho.2 with ⟨hv, hz⟩ | ⟨g, cap', cur, hv, _, hg, hnc, hcm, _, _⟩
  · obtain ⟨rfl, _, rfl⟩ := Value.slice.inj hv
    obtain rfl : es = [] := List.eq_nil_of_length_eq_zero (by omega)
    exact ⟨Nat.le_refl _, by omega, .inl rfl⟩
  · obtain ⟨rfl, _, rfl⟩ := Value.slice.inj hv
    refine ⟨by simp; omega, by unfold maxLen at hcm; omega, ?_⟩
    rcases Nat.eq_zero_or_pos n with h0 | h0
    · exact .inl (by rw [List.eq_nil_of_length_eq_zero (l := es) (by omega)]; rfl)
    · refine .inr ⟨g, 0, rfl, row_of fun k hk => ?_⟩
      have hk' : k < es.length := by simpa using hk
      rw [List.getElem_map]
      have hc : ∀ i, i < 4 → W.cell? ⟨g, 0 + k * 4 + i, none⟩ = es[k].cells[i]? := fun i hi => by
        have := ho.cells (g := g) rfl (k * 4 + i) ((es[k].cells)[i]'(by rw [TE.cells_len]; exact hi)) (by rw [cellsL_at es k i hk' hi, List.getElem?_eq_getElem])
        rw [Addr.add_lit] at this
        rw [show 0 + k * 4 + i = 0 + (k * 4 + i) by omega, this, List.getElem?_eq_getElem]
      exact (TV.at_iff _ _ _).2 ⟨hc 0 (by omega), hc 1 (by omega), hc 2 (by omega), es[k].A, es[k].c, hc 3 (by omega), es[k].ok.below hb⟩
theorem own_cell {base n cap g : Nat} {es : List (TE w0)} (ho : W.ownsRow base 35 4 (.slice (some ⟨g, 0, none⟩) n cap) n (cellsL es)) {k : Nat} (hk : k < es.length) :
    W.cell? ⟨g, k * 4, none⟩ = some (.int .i64 es[k].t.kind) ∧ W.cell? ⟨g, k * 4 + 1, none⟩ = some (.int .i64 es[k].t.int) ∧ W.cell? ⟨g, k * 4 + 2, none⟩ = some (.string ⟨es[k].t.name.toArray⟩) ∧ W.cell? ⟨g, k * 4 + 3, none⟩ = some (.slice es[k].A es[k].t.items.length es[k].c) := by
  have hc : ∀ i, i < 4 → W.cell? ⟨g, k * 4 + i, none⟩ = es[k].cells[i]? := fun i hi => by
    have := ho.cells (g := g) rfl (k * 4 + i) ((es[k].cells)[i]'(by rw [TE.cells_len]; exact hi)) (by rw [cellsL_at es k i hk hi, List.getElem?_eq_getElem])
    rw [Addr.add_lit, Nat.zero_add] at this
    rw [this, List.getElem?_eq_getElem]
  exact ⟨hc 0 (by omega), hc 1 (by omega), hc 2 (by omega), hc 3 (by omega)⟩

/-- The parts of all. -/
def bparts (es : List (TE w0)) : Nat := TV.partsL (es.map (·.t))
theorem bparts_snoc (es : List (TE w0)) (e : TE w0) : bparts (es ++ [e]) = bparts es + e.t.parts := by simp [bparts, partsL_append, TV.partsL]

/-- What may be in a box. -/
structure BOk (es : List (TE w0)) : Prop where
  len : es.length ≤ 1000
  parts : bparts es ≤ 20000
  each : ∀ e ∈ es, e.t.parts ≤ 4096
  named : ∀ e ∈ es, e.t.named
/-- A box in memory. -/
structure BoxAt (w0 : World) (pb : Nat) (A : Option Addr) (cap : Nat) (es : List (TE w0)) (W : World) : Prop where
  obj : Blk W pb 59 #[.slice A es.length cap, .int .i64 ((bparts es : Nat) : Int)]
  row : W.ownsRow w0.heap.size 35 4 (.slice A es.length cap) es.length (cellsL es)
  bel : Below w0.heap.size w0 W
  lo : w0.heap.size ≤ pb
  ok : BOk es
section
variable {pb : Nat} {A : Option Addr} {cap : Nat} {es : List (TE w0)}
theorem BoxAt.keep (h : BoxAt w0 pb A cap es W) (hb : Below W.heap.size W W') : BoxAt w0 pb A cap es W' := ⟨h.obj.keep hb, h.row.kept (grown_of_below hb none) (by cases (Value.slice A es.length cap).ownBlock <;> simp), below_step h.bel hb, h.lo, h.ok⟩
theorem BoxAt.nrow (h : BoxAt w0 pb A cap es W) {g : Nat} (hg : (Value.slice A es.length cap).ownBlock = some g) : g ≠ pb := by
  rintro rfl
  rcases h.row.2 with ⟨hv, _⟩ | ⟨g', cap', cur, hv, _, hh, _⟩
  · rw [hv] at hg; cases hg
  · rw [hv] at hg
    obtain rfl : g' = g := by simpa [Value.ownBlock] using hg
    have := h.obj
    unfold Blk at this
    rw [this] at hh
    injection hh with hh
    injection hh with _ hh _
    exact absurd hh (by decide)

set_option maxHeartbeats 400000 in
theorem blen_any (h : BoxAt w0 pb A cap es W) : Calls Try.prog 20 #[.pointer (some ⟨pb, 0, none⟩)] W fun e w' => e = .returned (.int .i64 (es.length : Nat)) ∧ W = w' := by
  have c0 := h.obj.cell 0
  generalize es.length = n at *
  go_enter Try.func20, Try.ntmps20
  go_wp2
  go_ret
  exact ⟨rfl, rfl⟩
set_option maxHeartbeats 400000 in
theorem bparts_any (h : BoxAt w0 pb A cap es W) : Calls Try.prog 21 #[.pointer (some ⟨pb, 0, none⟩)] W fun e w' => e = .returned (.int .i64 ((bparts es : Nat) : Int)) ∧ W = w' := by
  have c1 := h.obj.cell 1
  go_enter Try.func21, Try.ntmps21
  go_wp2
  go_ret
  exact ⟨rfl, rfl⟩
set_option maxHeartbeats 400000 in
theorem blen_nil (W : World) : Calls Try.prog 20 #[.pointer none] W fun e w' => e = .returned (.int .i64 0) ∧ W = w' := by
  go_enter Try.func20, Try.ntmps20
  go_wp2
  go_ret
  exact ⟨rfl, rfl⟩
set_option maxHeartbeats 400000 in
theorem bparts_nil (W : World) : Calls Try.prog 21 #[.pointer none] W fun e w' => e = .returned (.int .i64 0) ∧ W = w' := by
  go_enter Try.func21, Try.ntmps21
  go_wp2
  go_ret
  exact ⟨rfl, rfl⟩
set_option maxHeartbeats 400000 in
theorem bput_nil (k n : Int) (s : List UInt8) (A : Option Addr) (len c : Nat) (W : World) : Calls Try.prog 13 #[.pointer none, .agg #[.int .i64 k, .int .i64 n, .string ⟨s.toArray⟩, .slice A len c]] W fun e w' => e = .returned (.int .i64 7) ∧ Below W.heap.size W w' := by
  go_enter Try.func13, Try.ntmps13
  go_wp2
  go_ret
  exact ⟨rfl, below_alloc _ _⟩
set_option maxHeartbeats 400000 in
theorem btake_nil (i : Int) (W : World) : Calls Try.prog 15 #[.pointer none, .int .i64 i] W fun e w' => e = .returned (.tuple #[.agg #[.int .i64 0, .int .i64 0, .string ⟨#[]⟩, .slice none 0 0], .int .i64 7]) ∧ Below W.heap.size W w' := by
  go_enter Try.func15, Try.ntmps15
  go_wp2
  exact bodyPost_ret (v := .tuple #[.agg #[.int .i64 0, .int .i64 0, .string ⟨#[]⟩, .slice none 0 0], .int .i64 7]) (by simp [results, Try.results15, go_sem]) rfl ⟨rfl, below_alloc _ _⟩
end
end
end Go.Proofs.Ythmlpiiajlfmcaa
