/- How slices of acts (Kind, Name, Pid) that came in are read. No program is named here. -/
import Derived.Test.YtfkolemkmhcbfaaOpenS
namespace Go.Proofs.Ytfkolemkmhcbfaa
open Go.ChangeShapes Go.WideShapes Go.ChangeAt Go.RowKit Go.Joins Go.Deep
set_option linter.unusedVariables false

/-- An act. -/
structure ActN where
  kind : Int
  name : List UInt8
  pid : Int
structure ActN.Ok (a : ActN) : Prop where
  k1 : -9223372036854775808 ≤ a.kind
  k2 : a.kind ≤ 9223372036854775807
  p1 : -9223372036854775808 ≤ a.pid
  p2 : a.pid ≤ 9223372036854775807
  s2 : a.name.length ≤ 140737488351232
def ActNAt (w : World) (b o : Nat) (a : ActN) : Prop :=
  w.cell? ⟨b, o, none⟩ = some (.int .i64 a.kind) ∧ w.cell? ⟨b, o + 1, none⟩ = some (.string ⟨a.name.toArray⟩) ∧ w.cell? ⟨b, o + 2, none⟩ = some (.int .i64 a.pid)
/-- A slice with the address A reads as these acts. -/
def RdNA (w : World) (A : Option Addr) (l : List ActN) : Prop := l = [] ∨ ∃ b off, A = some ⟨b, off, none⟩ ∧ ∀ j, (h : j < l.length) → ActNAt w b (off + j * 3) l[j]
theorem RdNA.below {w w' : World} {A : Option Addr} {l : List ActN} (h : RdNA w A l) (hb : Below w.heap.size w w') : RdNA w' A l := by
  rcases h with rfl | ⟨b, off, rfl, h⟩
  · exact .inl rfl
  · refine .inr ⟨b, off, rfl, fun j hj => ?_⟩
    obtain ⟨h0, h1, h2⟩ := h j hj
    exact ⟨(hb.cell (World.block_lt_of_cell? w _ h0)).trans h0, (hb.cell (World.block_lt_of_cell? w _ h1)).trans h1, (hb.cell (World.block_lt_of_cell? w _ h2)).trans h2⟩
theorem RdNA.at_ {w : World} {A : Option Addr} {l : List ActN} (h : RdNA w A l) {k : Nat} (hk : k < l.length) : ∃ b off, A = some ⟨b, off, none⟩ ∧ ActNAt w b (off + k * 3) l[k] := by
  rcases h with rfl | ⟨b, off, rfl, h⟩
  · simp at hk
  · exact ⟨b, off, rfl, h k hk⟩

section
variable {H : Type} {enc : TypeId × Value → H} {P : Program} {w : World} {base : Nat} {spare : Nat → Bool} {held : Bool}
theorem open_nacts {t e : TypeId} {f0 f1 f2 : Field} {fuel : Nat} {v : Value} {x : DataW H × List MemPlace} (ht : P.underlying t = some (.slice e)) (he : P.underlying e = some (.struct #[f0, f1, f2]))
    (hone : oneCellFields P #[f0, f1, f2] = true) (hC : P.cellsOf e = 3) (h0 : P.underlying f0.type = some (.int .i64)) (h1 : P.underlying f1.type = some .string) (h2 : P.underlying f2.type = some (.int .i64))
    (h : DataW.trod enc P w base spare held fuel t [v] = some x) (hw : Wt P t x.1) :
    ∃ A n c l, v = .slice A n c ∧ l.length = n ∧ n ≤ c ∧ c ≤ 9223372036854775807 ∧ RdNA w A l ∧ ∀ a ∈ l, a.Ok := by
  rcases open_slice ht h with ⟨hv, _⟩ | ⟨a, len, cap, m, n, D, Pl, hcs, _, hlc, hcm, hm, hx, hi⟩
  · injection hv with hv
    exact ⟨none, 0, 0, [], hv, rfl, Nat.le_refl _, by omega, .inl rfl, fun a ha => by simp at ha⟩
  · injection hcs with hcs
    rw [hx] at hw
    rw [hC] at hi
    have hlm : len ≤ m := by rw [hm]; split <;> omega
    have step : ∀ i, i < len → ∃ av : ActN, av.Ok ∧ w.cell? (a.add (i * 3)) = some (.int .i64 av.kind) ∧ w.cell? (a.add (i * 3 + 1)) = some (.string ⟨av.name.toArray⟩) ∧ w.cell? (a.add (i * 3 + 2)) = some (.int .i64 av.pid) := by
      intro i hil
      obtain ⟨cs', hc', ht'⟩ := hi i (by omega)
      have hwi : Wt P e (D i) := wt_elem ht hw (List.mem_map.2 ⟨i, List.mem_range.2 hil, rfl⟩)
      obtain ⟨_, hlen, hcell⟩ := World.cells?_some hc'
      obtain ⟨y0, y1, y2, n', hxe, _, t0, t1, t2⟩ := trod_struct3 he ht'
      obtain ⟨o0, k0⟩ := hone_of hone 0 f0 rfl
      obtain ⟨o1, k1⟩ := hone_of hone 1 f1 rfl
      obtain ⟨o2, k2⟩ := hone_of hone 2 f2 rfl
      match cs', hlen with
      | [v0, v1, v2], _ =>
        simp only [Prod.mk.injEq] at hxe
        have w1 : Wt P f1.type y1.1 := by
          rw [hxe.1] at hwi
          exact wt_field he hwi (j := 1) rfl rfl
        obtain ⟨z0, e0, _, b0⟩ := DataW.trod_int h0 (by simpa [o0, k0] using t0)
        obtain ⟨z1, e1, d1, b1⟩ := DataW.trod_string h1 (by simpa [o1, k1] using t1)
        obtain ⟨z2, e2, _, b2⟩ := DataW.trod_int h2 (by simpa [o2, k2] using t2)
        injection e0 with e0
        injection e1 with e1
        injection e2 with e2
        subst e0 e1 e2
        have c0 := hcell 0 (by omega)
        have c1 := hcell 1 (by omega)
        have c2 := hcell 2 (by omega)
        rw [Go.Deep.add_add] at c0 c1 c2
        have bb0 := bounds_i64 b0
        have bb2 := bounds_i64 b2
        rw [d1] at w1
        exact ⟨⟨z0, z1.data.toList, z2⟩, ⟨bb0.1, bb0.2, bb2.1, bb2.2, w1 _ (by simp [DataW.weights])⟩, c0, c1, c2⟩
    obtain ⟨l, hl, hq⟩ := list_of len step
    refine ⟨some a, len, cap, l, hcs, hl, hlc, by unfold maxLen at hcm; exact hcm, ?_, fun x hx => ?_⟩
    · rcases Nat.eq_zero_or_pos len with hz | hz
      · exact .inl (List.eq_nil_of_length_eq_zero (by omega))
      · obtain ⟨_, hc0, _⟩ := hq 0 (by omega)
        have hsp := spot_of_cell hc0
        obtain ⟨b, off, spot⟩ := a
        have hspot : spot = none := by simpa [Addr.add] using hsp
        subst hspot
        refine .inr ⟨b, off, rfl, fun j hj => ?_⟩
        obtain ⟨_, h3, h4, h5⟩ := hq j hj
        rw [Addr.add_lit] at h3 h4 h5
        exact ⟨h3, by rw [Nat.add_assoc]; exact h4, by rw [Nat.add_assoc]; exact h5⟩
    · obtain ⟨i, hi', rfl⟩ := List.getElem_of_mem hx
      exact (hq i hi').1
end
end Go.Proofs.Ytfkolemkmhcbfaa
