/- How slices of numbers and of texts that came in are read. No program is named here. -/
import Derived.Test.YtefnjplfemgibaaOpenI
import Derived.Test.YtefnjplfemgibaaLays
import Derived.SliceStrings
namespace Go.Proofs.Ytefnjplfemgibaa
open Go.ChangeShapes Go.WideShapes Go.ChangeAt Go.RowKit Go.Joins Go.Deep
set_option linter.unusedVariables false

section
variable {H : Type} {enc : TypeId × Value → H} {P : Program} {w : World} {base : Nat} {spare : Nat → Bool} {held : Bool}
/-- A slice of texts that came in, within the reach. -/
theorem open_rdt {t e : TypeId} {fuel : Nat} {v : Value} {x : DataW H × List MemPlace} (ht : P.underlying t = some (.slice e)) (he : P.underlying e = some .string) (hc : P.cellsOf e = 1)
    (h : DataW.trod enc P w base spare held fuel t [v] = some x) (hw : Wt P t x.1) : ∃ A n c l, v = .slice A n c ∧ l.length = n ∧ n ≤ c ∧ c ≤ 9223372036854775807 ∧ RdT w A l ∧ ∀ s ∈ l, s.length ≤ 140737488351232 := by
  rcases open_strings ht he hc h with ⟨hcs, _⟩ | ⟨a, len, cap, ss, hcs, _, hl, hm, hz, hx, hcell, hwz⟩
  · injection hcs with hcs
    exact ⟨none, 0, 0, [], hcs, rfl, Nat.le_refl _, by omega, .inl rfl, fun z hz => by simp at hz⟩
  · injection hcs with hcs
    have hlen : len ≤ ss.length := by rw [hz]; split <;> omega
    refine ⟨some a, len, cap, (ss.take len).map (fun s => s.data.toList), hcs, by simp; omega, hl, by unfold maxLen at hm; exact hm, ?_, fun z hz => ?_⟩
    · rcases Nat.eq_zero_or_pos len with h0 | h0
      · exact .inl (by subst h0; simp)
      · have hsp := spot_of_cell (hcell 0 (by omega))
        obtain ⟨b, off, spot⟩ := a
        have hspot : spot = none := by simpa [Addr.add] using hsp
        subst hspot
        refine .inr ⟨b, off, rfl, fun j hj => ?_⟩
        have hj2 : j < ss.length := by simp at hj; omega
        have h1 := hcell j hj2
        rw [Addr.add_lit] at h1
        rw [h1, List.getD_eq_getElem?_getD, List.getElem?_eq_getElem hj2]
        simp
    · obtain ⟨s, hs, rfl⟩ := List.mem_map.1 hz
      rw [hx] at hw
      have hd : (DataW.lit (.string s.data.toList) : DataW H) ∈ strs (ss.take len) := List.mem_map.2 ⟨s, hs, rfl⟩
      exact wt_elem ht hw hd s.data.toList.length (by simp [DataW.weights])
end
end Go.Proofs.Ytefnjplfemgibaa
