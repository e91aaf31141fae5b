/- How slices of pairs of ints that came in are read. -/
import Derived.Test.YtdmehbejfigaiaaOpenS
import Derived.Test.YtdmehbejfigaiaaReadsL
namespace Go.Proofs.Ytdmehbejfigaiaa
open Go.ChangeShapes Go.WideShapes Go.ChangeAt Go.RowKit Go.Joins Go.Deep
set_option linter.unusedVariables false

section
variable {H : Type} {enc : TypeId × Value → H} {P : Program} {w : World} {base : Nat} {spare : Nat → Bool} {held : Bool}
/-- A slice of pairs of ints that came in. -/
theorem open_pairs {t e : TypeId} {f0 f1 : Field} {fuel : Nat} {v : Value} {x : DataW H × List MemPlace} (ht : P.underlying t = some (.slice e)) (he : P.underlying e = some (.struct #[f0, f1]))
    (hone : oneCellFields P #[f0, f1] = true) (hC : P.cellsOf e = 2) (h0 : P.underlying f0.type = some (.int .i64)) (h1 : P.underlying f1.type = some (.int .i64))
    (h : DataW.trod enc P w base spare held fuel t [v] = some x) :
    ∃ A n c l, v = .slice A n c ∧ l.length = n ∧ n ≤ c ∧ c ≤ 9223372036854775807 ∧ RdP w A l ∧ ∀ a ∈ l, a.2 ≤ 9223372036854775807 := by
  rcases open_slice ht h with ⟨hv, _⟩ | ⟨a, len, cap, m, n, D, Pl, hcs, _, hlc, hcm, hm, hx, hi⟩
  · injection hv with hv
    exact ⟨none, 0, 0, [], hv, rfl, Nat.le_refl _, by omega, .inl rfl, fun a ha => by simp at ha⟩
  · injection hcs with hcs
    rw [hC] at hi
    have hlm : len ≤ m := by rw [hm]; split <;> omega
    have step : ∀ i, i < len → ∃ av : Int × Int, av.2 ≤ 9223372036854775807 ∧ w.cell? (a.add (i * 2)) = some (.int .i64 av.1) ∧ w.cell? (a.add (i * 2 + 1)) = some (.int .i64 av.2) := by
      intro i hil
      obtain ⟨cs', hc', ht'⟩ := hi i (by omega)
      obtain ⟨_, hlen, hcell⟩ := World.cells?_some hc'
      obtain ⟨y0, y1, n', hxe, _, t0, t1⟩ := trod_struct2 he ht'
      obtain ⟨o0, k0⟩ := hone_of hone 0 f0 rfl
      obtain ⟨o1, k1⟩ := hone_of hone 1 f1 rfl
      match cs', hlen with
      | [v0, v1], _ =>
        obtain ⟨z0, e0, _, b0⟩ := DataW.trod_int h0 (by simpa [o0, k0] using t0)
        obtain ⟨z1, e1, _, b1⟩ := DataW.trod_int h1 (by simpa [o1, k1] using t1)
        injection e0 with e0
        injection e1 with e1
        subst e0 e1
        have c0 := hcell 0 (by omega)
        have c1 := hcell 1 (by omega)
        rw [Go.Deep.add_add] at c0 c1
        have bb1 := bounds_i64 b1
        exact ⟨⟨z0, z1⟩, bb1.2, c0, c1⟩
    obtain ⟨l, hl, hq⟩ := list_of len step
    refine ⟨some a, len, cap, l, hcs, hl, hlc, by unfold maxLen at hcm; exact hcm, ?_, fun x hx => ?_⟩
    · rcases Nat.eq_zero_or_pos len with hz | hz
      · exact .inl (List.eq_nil_of_length_eq_zero (by omega))
      · obtain ⟨_, hc0, _⟩ := hq 0 (by omega)
        have hsp := spot_of_cell hc0
        obtain ⟨b, off, spot⟩ := a
        have hspot : spot = none := by simpa [Addr.add] using hsp
        subst hspot
        refine .inr ⟨b, off, rfl, fun j hj => ?_⟩
        obtain ⟨_, h3, h4⟩ := hq j hj
        rw [Addr.add_lit] at h3 h4
        exact ⟨h3, by rw [Nat.add_assoc]; exact h4⟩
    · obtain ⟨i, hi', rfl⟩ := List.getElem_of_mem hx
      exact (hq i hi').1
end
end Go.Proofs.Ytdmehbejfigaiaa
