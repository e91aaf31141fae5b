/- The walks of slices.Grow at a nil slice of bytes and of slices.Concat at bytes. -/
import Derived.Test.YtommadcjemljcaaProg
import Derived.Test.YtommadcjemljcaaBase
import Derived.Test.YtommadcjemljcaaLibA
import Derived.Lib.AppendZerosOnto
namespace Go.Proofs.Ytommadcjemljcaa
open Go.RowKit
set_option linter.unusedVariables false

/-- A slice of slices of bytes reads as lists of bytes. -/
def RdL (w : World) (A : Option Addr) (ls : List (List UInt8)) : Prop :=
  ls = [] ∨ ∃ b off, A = some ⟨b, off, none⟩ ∧ ∀ j, (h : j < ls.length) → ∃ B c, w.cell? ⟨b, off + j, none⟩ = some (.slice B ls[j].length c) ∧ Rd w B ls[j]

theorem RdL.at_ {w : World} {A : Option Addr} {ls : List (List UInt8)} (h : RdL w A ls) {k : Nat} (hk : k < ls.length) :
    ∃ b off B c, A = some ⟨b, off, none⟩ ∧ w.cell? ⟨b, off + k, none⟩ = some (.slice B (ls[k]'hk).length c) ∧ Rd w B (ls[k]'hk) := by
  rcases h with rfl | ⟨b, off, h1, h2⟩
  · simp at hk
  · obtain ⟨B, c, h3, h4⟩ := h2 k hk
    exact ⟨b, off, B, c, h1, h3, h4⟩
theorem RdL.keep {w w' : World} {A : Option Addr} {ls : List (List UInt8)} (h : RdL w A ls) (hk : ∀ p : Addr, p.block < w.heap.size → w'.cell? p = w.cell? p) : RdL w' A ls := by
  rcases h with rfl | ⟨b, off, h1, h2⟩
  · exact .inl rfl
  · refine .inr ⟨b, off, h1, fun j hj => ?_⟩
    obtain ⟨B, c, h3, h4⟩ := h2 j hj
    exact ⟨B, c, (hk _ (World.block_lt_of_cell? w ⟨b, off + j, none⟩ h3)).trans h3, h4.keep hk⟩
theorem RdL.below {w w' : World} {A : Option Addr} {ls : List (List UInt8)} (h : RdL w A ls) (hb : Below w.heap.size w w') : RdL w' A ls := h.keep fun _ hp => hb.cell hp

theorem flat_take (ls : List (List UInt8)) (k : Nat) (hk : k < ls.length) : (ls.take (k + 1)).flatten = (ls.take k).flatten ++ ls[k] := by
  rw [List.take_succ_eq_append_getElem hk, List.flatten_append]; simp
theorem flat_take_le (ls : List (List UInt8)) (k : Nat) : (ls.take k).flatten.length ≤ ls.flatten.length := by
  conv => rhs; rw [← List.take_append_drop k ls]
  rw [List.flatten_append, List.length_append]
  omega

end Go.Proofs.Ytommadcjemljcaa
