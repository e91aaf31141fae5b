/- A row of terms of the call's own whose items lie in old memory (the first half of MBox, MPlay's row_te). No function of the program is named here. -/
import Derived.Test.YtmpknhdfglbocaaGreatTermY
namespace Go.Proofs.YtmpknhdfglbocaaGreat
open Go.RowKit
set_option linter.unusedVariables false

/-- A term with its items' slice in old memory. -/
structure TE (w0 : World) where
  t : TV
  A : Option Addr
  c : Nat
  ok : RdM w0 A c t.items
def TE.cells {w0 : World} (e : TE w0) : List Value := [.int .i64 e.t.kind, .int .i64 e.t.int, .string ⟨e.t.name.toArray⟩, .slice e.A e.t.items.length e.c]
def TE.agg {w0 : World} (e : TE w0) : Value := .agg #[.int .i64 e.t.kind, .int .i64 e.t.int, .string ⟨e.t.name.toArray⟩, .slice e.A e.t.items.length e.c]
def cellsL {w0 : World} : List (TE w0) → List Value
  | [] => []
  | e :: r => e.cells ++ cellsL r
section
variable {w0 W W' : World}
theorem TE.cells_len (e : TE w0) : e.cells.length = 4 := rfl
theorem cellsL_len (es : List (TE w0)) : (cellsL es).length = es.length * 4 := by
  induction es with
  | nil => rfl
  | cons e r ih => simp [cellsL, TE.cells_len, ih]; omega
theorem cellsL_append (es fs : List (TE w0)) : cellsL (es ++ fs) = cellsL es ++ cellsL fs := by
  induction es with
  | nil => rfl
  | cons e r ih => simp [cellsL, ih]
theorem cellsL_one (e : TE w0) : cellsL [e] = e.cells := by simp [cellsL]
theorem cells_one (e : TE w0) : ∀ u ∈ e.cells, u.oneCell' = true := by
  intro u hu
  simp only [TE.cells, List.mem_cons, List.mem_nil_iff, or_false] at hu
  rcases hu with rfl | rfl | rfl | rfl <;> rfl
theorem cellsL_one' (es : List (TE w0)) : ∀ u ∈ cellsL es, u.oneCell' = true := by
  induction es with
  | nil => intro u hu; simp [cellsL] at hu
  | cons e r ih =>
    intro u hu
    simp only [cellsL, List.mem_append] at hu
    rcases hu with h | h
    · exact cells_one e u h
    · exact ih u h
theorem cellsL_at : ∀ (es : List (TE w0)) (k i : Nat) (h : k < es.length), i < 4 → (cellsL es)[k * 4 + i]? = es[k].cells[i]?
  | e :: r, 0, i, _, hi => by
    simp only [cellsL, Nat.zero_mul, Nat.zero_add, List.getElem_cons_zero]
    rw [List.getElem?_append_left (by rw [TE.cells_len]; exact hi)]
  | e :: r, k + 1, i, h, hi => by
    simp only [cellsL, List.getElem_cons_succ]
    rw [List.getElem?_append_right (by rw [TE.cells_len]; omega), TE.cells_len, show (k + 1) * 4 + i - 4 = k * 4 + i by omega]
    exact cellsL_at r k i (by simpa using h) hi
  | [], _, _, h, _ => by simp at h

/-- A row of the call's own reads as its terms. -/
theorem rdm_of_own {base n cap : Nat} {A : Option Addr} {es : List (TE w0)} (ho : W.ownsRow base 35 4 (.slice A n cap) n (cellsL es)) (hn : es.length = n) (hb : Below w0.heap.size w0 W) : RdM W A cap (es.map (·.t)) := by
  rcases ho.2 with ⟨hv, hz⟩ | ⟨g, cap', cur, hv, _, hg, hnc, hcm, _, _⟩
  · obtain ⟨rfl, _, rfl⟩ := Value.slice.inj hv
    obtain rfl : es = [] := List.eq_nil_of_length_eq_zero (by omega)
    exact ⟨Nat.le_refl _, by omega, .inl rfl⟩
  · obtain ⟨rfl, _, rfl⟩ := Value.slice.inj hv
    refine ⟨by simp; omega, by unfold maxLen at hcm; omega, ?_⟩
    rcases Nat.eq_zero_or_pos n with h0 | h0
    · exact .inl (by rw [List.eq_nil_of_length_eq_zero (l := es) (by omega)]; rfl)
    · refine .inr ⟨g, 0, rfl, row_of fun k hk => ?_⟩
      have hk' : k < es.length := by simpa using hk
      rw [List.getElem_map]
      have hc : ∀ i, i < 4 → W.cell? ⟨g, 0 + k * 4 + i, none⟩ = es[k].cells[i]? := fun i hi => by
        have := ho.cells (g := g) rfl (k * 4 + i) ((es[k].cells)[i]'(by rw [TE.cells_len]; exact hi)) (by rw [cellsL_at es k i hk' hi, List.getElem?_eq_getElem])
        rw [Addr.add_lit] at this
        rw [show 0 + k * 4 + i = 0 + (k * 4 + i) by omega, this, List.getElem?_eq_getElem]
      exact (TV.at_iff _ _ _).2 ⟨hc 0 (by omega), hc 1 (by omega), hc 2 (by omega), es[k].A, es[k].c, hc 3 (by omega), es[k].ok.below hb⟩

end
theorem row_te {w : World} : ∀ (l : List TV) (b o : Nat), TV.Row w l b o → ∃ es : List (TE w), es.map (fun e : TE w => e.t) = l ∧ ∀ j u, (cellsL es)[j]? = some u → w.cell? ⟨b, o + j, none⟩ = some u
  | [], b, o, _ => ⟨[], rfl, fun j u h => by simp [cellsL] at h⟩
  | t :: r, b, o, h => by
    simp only [TV.Row] at h
    obtain ⟨h0, h1, h2, A, c, h3, h4⟩ := (TV.at_iff _ _ _).1 h.1
    obtain ⟨es, he, hc⟩ := row_te r b (o + 4) h.2
    refine ⟨⟨t, A, c, h4⟩ :: es, by simp [he], fun j u hu => ?_⟩
    simp only [cellsL] at hu
    match j with
    | 0 => simp [TE.cells] at hu; subst hu; exact h0
    | 1 => simp [TE.cells] at hu; subst hu; exact h1
    | 2 => simp [TE.cells] at hu; subst hu; exact h2
    | 3 => simp [TE.cells] at hu; subst hu; exact h3
    | j + 4 =>
      have := hc j u (by simpa [TE.cells] using hu)
      rw [show o + (j + 4) = o + 4 + j by omega]
      exact this
theorem rdm_te {w : World} {A : Option Addr} {c : Nat} {l : List TV} (h : RdM w A c l) : ∃ es : List (TE w), es.map (fun e : TE w => e.t) = l ∧ Cs w A (cellsL es) := by
  rcases h.2.2 with rfl | ⟨b, o, hA, hr⟩
  · exact ⟨[], rfl, .inl rfl⟩
  · obtain ⟨es, he, hc⟩ := row_te l b o hr
    exact ⟨es, he, .inr ⟨_, hA, fun j u hu => by rw [Addr.add_lit]; exact hc j u hu⟩⟩

end Go.Proofs.YtmpknhdfglbocaaGreat
