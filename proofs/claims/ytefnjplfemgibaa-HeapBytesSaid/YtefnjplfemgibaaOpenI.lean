/- How slices of numbers that came in are read. No program is named here. -/
import Derived.Test.YtefnjplfemgibaaOpenS
import Derived.Test.YtefnjplfemgibaaRdK
namespace Go.Proofs.Ytefnjplfemgibaa
open Go.ChangeShapes Go.WideShapes Go.ChangeAt Go.RowKit Go.Joins Go.Deep
set_option linter.unusedVariables false

section
variable {H : Type} {enc : TypeId × Value → H} {P : Program} {w : World} {base : Nat} {spare : Nat → Bool} {held : Bool}
/-- A slice of integers that came in. -/
theorem open_rdk {t e : TypeId} {K : IntKind} {fuel : Nat} {v : Value} {x : DataW H × List MemPlace} (ht : P.underlying t = some (.slice e)) (he : P.underlying e = some (.int K)) (hc : P.cellsOf e = 1)
    (h : DataW.trod enc P w base spare held fuel t [v] = some x) : ∃ A n c l, v = .slice A n c ∧ l.length = n ∧ n ≤ c ∧ c ≤ 9223372036854775807 ∧ RdK K w A l ∧ ∀ z ∈ l, (Lit.int K z).wf = true := by
  rcases open_ints ht he hc h with ⟨hcs, _⟩ | ⟨a, len, cap, zs, hcs, _, hl, hm, hz, _, hcell, hwz⟩
  · injection hcs with hcs
    exact ⟨none, 0, 0, [], hcs, rfl, Nat.le_refl _, by omega, .inl rfl, fun z hz => by simp at hz⟩
  · injection hcs with hcs
    have hlen : len ≤ zs.length := by rw [hz]; split <;> omega
    refine ⟨some a, len, cap, zs.take len, hcs, by simp; omega, hl, by unfold maxLen at hm; exact hm, ?_, fun z hz => hwz z (List.mem_of_mem_take hz)⟩
    rcases Nat.eq_zero_or_pos len with h0 | h0
    · exact .inl (by subst h0; simp)
    · have hsp := spot_of_cell (hcell 0 (by omega))
      obtain ⟨b, off, spot⟩ := a
      have hspot : spot = none := by simpa [Addr.add] using hsp
      subst hspot
      refine .inr ⟨b, off, rfl, fun j hj => ?_⟩
      have hj2 : j < zs.length := by simp at hj; omega
      have h1 := hcell j hj2
      rw [Addr.add_lit] at h1
      rw [h1, List.getD_eq_getElem?_getD, List.getElem?_eq_getElem hj2]
      simp
theorem open_nats {t e : TypeId} {fuel : Nat} {v : Value} {x : DataW H × List MemPlace} (ht : P.underlying t = some (.slice e)) (he : P.underlying e = some (.int .u64)) (hc : P.cellsOf e = 1)
    (h : DataW.trod enc P w base spare held fuel t [v] = some x) : ∃ A n c, ∃ l : List Nat, v = .slice A n c ∧ l.length = n ∧ n ≤ c ∧ c ≤ 9223372036854775807 ∧ RdK .u64 w A (l.map (fun (x : Nat) => (x : Int))) ∧ ∀ z ∈ l, z < 18446744073709551616 := by
  obtain ⟨A, n, c, l, h1, h2, h3, h4, h5, h6⟩ := open_rdk ht he hc h
  have hb : ∀ z ∈ l, 0 ≤ z ∧ z ≤ 18446744073709551615 := fun z hz => bounds_u64 (h6 z hz)
  have e : (l.map Int.toNat).map (fun (x : Nat) => (x : Int)) = l := by
    rw [List.map_map]
    conv => rhs; rw [← List.map_id l]
    exact List.map_congr_left fun z hz => by have := hb z hz; simp; omega
  refine ⟨A, n, c, l.map Int.toNat, h1, by rw [List.length_map]; exact h2, h3, h4, by rw [e]; exact h5, fun z hz => ?_⟩
  obtain ⟨y, hy, rfl⟩ := List.mem_map.1 hz
  have := hb y hy
  omega
theorem open_i64s {t e : TypeId} {fuel : Nat} {v : Value} {x : DataW H × List MemPlace} (ht : P.underlying t = some (.slice e)) (he : P.underlying e = some (.int .i64)) (hc : P.cellsOf e = 1)
    (h : DataW.trod enc P w base spare held fuel t [v] = some x) : ∃ A n c l, v = .slice A n c ∧ l.length = n ∧ n ≤ c ∧ c ≤ 9223372036854775807 ∧ RdK .i64 w A l ∧ ∀ z ∈ l, -9223372036854775808 ≤ z ∧ z ≤ 9223372036854775807 := by
  obtain ⟨A, n, c, l, h1, h2, h3, h4, h5, h6⟩ := open_rdk ht he hc h
  exact ⟨A, n, c, l, h1, h2, h3, h4, h5, fun z hz => bounds_i64 (h6 z hz)⟩
end
end Go.Proofs.Ytefnjplfemgibaa
