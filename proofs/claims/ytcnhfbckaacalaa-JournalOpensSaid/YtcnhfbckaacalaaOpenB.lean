/- A slice of slices of bytes that came in, opened. -/
import Derived.Test.YtcnhfbckaacalaaOpenS
import Derived.Test.YtcnhfbckaacalaaLibB
namespace Go.Proofs.Ytcnhfbckaacalaa
open Go.ChangeShapes Go.WideShapes Go.ChangeAt Go.RowKit Go.Joins Go.Deep
set_option linter.unusedVariables false

section
variable {H : Type} {enc : TypeId × Value → H} {P : Program} {w : World} {base : Nat} {spare : Nat → Bool} {held : Bool}
theorem open_rdl {t e ub : TypeId} {fuel : Nat} {v : Value} {x : DataW H × List MemPlace} (ht : P.underlying t = some (.slice e)) (he : P.underlying e = some (.slice ub)) (hC : P.cellsOf e = 1) (hub : P.underlying ub = some (.int .u8)) (hcb : P.cellsOf ub = 1) (hbb : P.bytesOf ub = 1)
    (h : DataW.trod enc P w base spare held fuel t [v] = some x) (hw : Wt P t x.1) :
    ∃ A n c l, v = .slice A n c ∧ l.length = n ∧ n ≤ c ∧ c ≤ 9223372036854775807 ∧ RdL w A l ∧ ∀ s ∈ l, s.length ≤ 140737488351232 := by
  rcases open_slice ht h with ⟨hv, _⟩ | ⟨a, len, cap, m, n, D, Pl, hcs, _, hlc, hcm, hm, hx, hi⟩
  · injection hv with hv
    exact ⟨none, 0, 0, [], hv, rfl, Nat.le_refl _, by omega, .inl rfl, fun a ha => by simp at ha⟩
  · injection hcs with hcs
    rw [hx] at hw
    rw [hC] at hi
    have hlm : len ≤ m := by rw [hm]; split <;> omega
    have step : ∀ i, i < len → ∃ s : List UInt8, s.length ≤ 140737488351232 ∧ ∃ B c, w.cell? (a.add (i * 1)) = some (.slice B s.length c) ∧ Rd w B s := by
      intro i hil
      obtain ⟨cs', hc', ht'⟩ := hi i (by omega)
      have hwi : Wt P e (D i) := wt_elem ht hw (List.mem_map.2 ⟨i, List.mem_range.2 hil, rfl⟩)
      obtain ⟨_, hlen, hcell⟩ := World.cells?_some hc'
      match cs', hlen with
      | [v0], _ =>
        obtain ⟨B, nn, c, l, rfl, hl, hnc, _, hr, hre⟩ := open_bytes_wt he hub hcb hbb (v := v0) ht' hwi
        subst hl
        have c0 := hcell 0 (by omega)
        exact ⟨l, hre, B, c, by simpa [Addr.add] using c0, hr⟩
    obtain ⟨l, hl, hq⟩ := list_of len step
    refine ⟨some a, len, cap, l, hcs, hl, hlc, by unfold maxLen at hcm; exact hcm, ?_, fun x hx => ?_⟩
    · rcases Nat.eq_zero_or_pos len with hz | hz
      · exact .inl (List.eq_nil_of_length_eq_zero (by omega))
      · obtain ⟨_, _, _, hc0, _⟩ := hq 0 (by omega)
        have hsp := spot_of_cell hc0
        obtain ⟨b, off, spot⟩ := a
        have hspot : spot = none := by simpa [Addr.add] using hsp
        subst hspot
        refine .inr ⟨b, off, rfl, fun j hj => ?_⟩
        obtain ⟨_, B, c, h1, h2⟩ := hq j hj
        refine ⟨B, c, ?_, h2⟩
        rw [Nat.mul_one, Addr.add_lit] at h1
        exact h1
    · obtain ⟨j, hj, rfl⟩ := List.getElem_of_mem hx
      exact (hq j hj).1
end
end Go.Proofs.Ytcnhfbckaacalaa
