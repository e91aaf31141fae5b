/- A row of terms of the call's own whose items lie in old memory (the first half of MBox, MPlay's row_te). No function of the program is named here. -/
import Derived.Test.YtmpknhdfglbocaaGreatTermY
namespace Go.Proofs.YtmpknhdfglbocaaGreat
open Go.RowKit
set_option linter.unusedVariables false

/-- A term with its items' slice in old memory. -/
structure TE (w0 : World) where
  t : TV
  A : Option Addr
  c : Nat
  ok : RdM w0 A c t.items
def TE.cells {w0 : World} (e : TE w0) : List Value := [.int .i64 e.t.kind, .int .i64 e.t.int, .string ⟨e.t.name.toArray⟩, .slice e.A e.t.items.length e.c]
def TE.agg {w0 : World} (e : TE w0) : Value := .agg #[.int .i64 e.t.kind, .int .i64 e.t.int, .string ⟨e.t.name.toArray⟩, .slice e.A e.t.items.length e.c]
def cellsL {w0 : World} : List (TE w0) → List Value
  | [] => []
  | e :: r => e.cells ++ cellsL r
section
variable {w0 W W' : World}
theorem TE.cells_len (e : TE w0) : e.cells.length = 4 := rfl
theorem cells_one (e : TE w0) : ∀ u ∈ e.cells, u.oneCell' = true := by
  intro u hu
  simp only [TE.cells, List.mem_cons, List.mem_nil_iff, or_false] at hu
  rcases hu with rfl | rfl | rfl | rfl <;> rfl

end
theorem row_te {w : World} : ∀ (l : List TV) (b o : Nat), TV.Row w l b o → ∃ es : List (TE w), es.map (fun e : TE w => e.t) = l ∧ ∀ j u, (cellsL es)[j]? = some u → w.cell? ⟨b, o + j, none⟩ = some u
  | [], b, o, _ => ⟨[], rfl, fun j u h => by simp [cellsL] at h⟩
  | t :: r, b, o, h => by
    simp only [TV.Row] at h
    obtain ⟨h0, h1, h2, A, c, h3, h4⟩ := (TV.at_iff _ _ _).1 h.1
    obtain ⟨es, he, hc⟩ := row_te r b (o + 4) h.2
    refine ⟨⟨t, A, c, h4⟩ :: es, by simp [he], fun j u hu => ?_⟩
    simp only [cellsL] at hu
    match j with
    | 0 => simp [TE.cells] at hu; subst hu; exact h0
    | 1 => simp [TE.cells] at hu; subst hu; exact h1
    | 2 => simp [TE.cells] at hu; subst hu; exact h2
    | 3 => simp [TE.cells] at hu; subst hu; exact h3
    | j + 4 =>
      have := hc j u (by simpa [TE.cells] using hu)
      rw [show o + (j + 4) = o + 4 + j by omega]
      exact this

end Go.Proofs.YtmpknhdfglbocaaGreat
