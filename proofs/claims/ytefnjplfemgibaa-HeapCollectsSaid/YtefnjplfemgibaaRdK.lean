/- Slices of numbers in memory: a word. No program is named here. -/
import Derived.Test.YtefnjplfemgibaaBase
namespace Go.Proofs.Ytefnjplfemgibaa
open Go.RowKit
set_option linter.unusedVariables false

/-- A slice with the address A reads as these values of numbers. -/
def RdK (K : IntKind) (w : World) (A : Option Addr) (l : List Int) : Prop :=
  l = [] ∨ ∃ b off, A = some ⟨b, off, none⟩ ∧ ∀ j, (h : j < l.length) → w.cell? ⟨b, off + j, none⟩ = some (.int K l[j])
theorem RdK.at_ {K : IntKind} {w : World} {A : Option Addr} {l : List Int} (h : RdK K w A l) {k : Nat} (hk : k < l.length) :
    ∃ b off, A = some ⟨b, off, none⟩ ∧ w.cell? ⟨b, off + k, none⟩ = some (.int K (l[k]'hk)) := by
  rcases h with rfl | ⟨b, off, h1, h2⟩
  · simp at hk
  · exact ⟨b, off, h1, h2 k hk⟩
theorem RdK.below {K : IntKind} {w w' : World} {A : Option Addr} {l : List Int} (h : RdK K w A l) (hb : Below w.heap.size w w') : RdK K w' A l := by
  rcases h with rfl | ⟨b, off, h1, h2⟩
  · exact .inl rfl
  · exact .inr ⟨b, off, h1, fun j hj => (hb.cell (World.block_lt_of_cell? w ⟨b, off + j, none⟩ (h2 j hj))).trans (h2 j hj)⟩
end Go.Proofs.Ytefnjplfemgibaa
