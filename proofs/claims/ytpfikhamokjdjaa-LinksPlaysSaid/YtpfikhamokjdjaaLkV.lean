/- How slices of acts (four integers) that came in are read. No program is named here. -/
import Derived.Test.YtpfikhamokjdjaaOpenS
import Derived.Test.YtpfikhamokjdjaaLkA
import Derived.Lib.SmallJoins
namespace Go.Proofs.Ytpfikhamokjdjaa
open Go.ChangeShapes Go.WideShapes Go.ChangeAt Go.RowKit Go.Joins Go.Deep
set_option linter.unusedVariables false

/-- An act. -/
structure ActL where
  kind : Int
  a : Int
  b : Int
  c : Int
structure ActL.Ok (x : ActL) : Prop where
  k : i64ok x.kind
  a : i64ok x.a
  b : i64ok x.b
  c : i64ok x.c
def ActLAt (w : World) (b o : Nat) (x : ActL) : Prop :=
  w.cell? ⟨b, o, none⟩ = some (.int .i64 x.kind) ∧ w.cell? ⟨b, o + 1, none⟩ = some (.int .i64 x.a) ∧ w.cell? ⟨b, o + 2, none⟩ = some (.int .i64 x.b) ∧ w.cell? ⟨b, o + 3, none⟩ = some (.int .i64 x.c)
/-- A slice with the address A reads as these acts. -/
def RdLA (w : World) (A : Option Addr) (l : List ActL) : Prop := l = [] ∨ ∃ b off, A = some ⟨b, off, none⟩ ∧ ∀ j, (h : j < l.length) → ActLAt w b (off + j * 4) l[j]
theorem RdLA.below {w w' : World} {A : Option Addr} {l : List ActL} (h : RdLA w A l) (hb : Below w.heap.size w w') : RdLA w' A l := by
  rcases h with rfl | ⟨b, off, rfl, h⟩
  · exact .inl rfl
  · refine .inr ⟨b, off, rfl, fun j hj => ?_⟩
    obtain ⟨h0, h1, h2, h3⟩ := h j hj
    exact ⟨(hb.cell (World.block_lt_of_cell? w _ h0)).trans h0, (hb.cell (World.block_lt_of_cell? w _ h1)).trans h1, (hb.cell (World.block_lt_of_cell? w _ h2)).trans h2, (hb.cell (World.block_lt_of_cell? w _ h3)).trans h3⟩
theorem RdLA.at_ {w : World} {A : Option Addr} {l : List ActL} (h : RdLA w A l) {k : Nat} (hk : k < l.length) : ∃ b off, A = some ⟨b, off, none⟩ ∧ ActLAt w b (off + k * 4) l[k] := by
  rcases h with rfl | ⟨b, off, rfl, h⟩
  · simp at hk
  · exact ⟨b, off, rfl, h k hk⟩

section
variable {H : Type} {enc : TypeId × Value → H} {P : Program} {w : World} {base : Nat} {spare : Nat → Bool} {held : Bool}
theorem open_lacts {t e : TypeId} {f0 f1 f2 f3 : Field} {fuel : Nat} {v : Value} {x : DataW H × List MemPlace} (ht : P.underlying t = some (.slice e)) (he : P.underlying e = some (.struct #[f0, f1, f2, f3]))
    (hone : oneCellFields P #[f0, f1, f2, f3] = true) (hC : P.cellsOf e = 4) (h0 : P.underlying f0.type = some (.int .i64)) (h1 : P.underlying f1.type = some (.int .i64)) (h2 : P.underlying f2.type = some (.int .i64)) (h3 : P.underlying f3.type = some (.int .i64))
    (h : DataW.trod enc P w base spare held fuel t [v] = some x) :
    ∃ A n c l, v = .slice A n c ∧ l.length = n ∧ n ≤ c ∧ c ≤ 9223372036854775807 ∧ RdLA w A l ∧ ∀ a ∈ l, a.Ok := by
  rcases open_slice ht h with ⟨hv, _⟩ | ⟨a, len, cap, m, n, D, Pl, hcs, _, hlc, hcm, hm, hx, hi⟩
  · injection hv with hv
    exact ⟨none, 0, 0, [], hv, rfl, Nat.le_refl _, by omega, .inl rfl, fun a ha => by simp at ha⟩
  · injection hcs with hcs
    rw [hC] at hi
    have hlm : len ≤ m := by rw [hm]; split <;> omega
    have step : ∀ i, i < len → ∃ av : ActL, av.Ok ∧ w.cell? (a.add (i * 4)) = some (.int .i64 av.kind) ∧ w.cell? (a.add (i * 4 + 1)) = some (.int .i64 av.a) ∧ w.cell? (a.add (i * 4 + 2)) = some (.int .i64 av.b) ∧ w.cell? (a.add (i * 4 + 3)) = some (.int .i64 av.c) := by
      intro i hil
      obtain ⟨cs', hc', ht'⟩ := hi i (by omega)
      obtain ⟨_, hlen, hcell⟩ := World.cells?_some hc'
      obtain ⟨y0, y1, y2, y3, n', hxe, _, t0, t1, t2, t3⟩ := trod_struct4 he ht'
      obtain ⟨o0, k0⟩ := hone_of hone 0 f0 rfl
      obtain ⟨o1, k1⟩ := hone_of hone 1 f1 rfl
      obtain ⟨o2, k2⟩ := hone_of hone 2 f2 rfl
      obtain ⟨o3, k3⟩ := hone_of hone 3 f3 rfl
      match cs', hlen with
      | [v0, v1, v2, v3], _ =>
        obtain ⟨z0, e0, _, b0⟩ := DataW.trod_int h0 (by simpa [o0, k0] using t0)
        obtain ⟨z1, e1, _, b1⟩ := DataW.trod_int h1 (by simpa [o1, k1] using t1)
        obtain ⟨z2, e2, _, b2⟩ := DataW.trod_int h2 (by simpa [o2, k2] using t2)
        obtain ⟨z3, e3, _, b3⟩ := DataW.trod_int h3 (by simpa [o3, k3] using t3)
        injection e0 with e0
        injection e1 with e1
        injection e2 with e2
        injection e3 with e3
        subst e0 e1 e2 e3
        have c0 := hcell 0 (by omega)
        have c1 := hcell 1 (by omega)
        have c2 := hcell 2 (by omega)
        have c3 := hcell 3 (by omega)
        rw [Go.Deep.add_add] at c0 c1 c2 c3
        exact ⟨⟨z0, z1, z2, z3⟩, ⟨bounds_i64 b0, bounds_i64 b1, bounds_i64 b2, bounds_i64 b3⟩, c0, c1, c2, c3⟩
    obtain ⟨l, hl, hq⟩ := list_of len step
    refine ⟨some a, len, cap, l, hcs, hl, hlc, by unfold maxLen at hcm; exact hcm, ?_, fun x hx => ?_⟩
    · rcases Nat.eq_zero_or_pos len with hz | hz
      · exact .inl (List.eq_nil_of_length_eq_zero (by omega))
      · obtain ⟨_, hc0, _⟩ := hq 0 (by omega)
        have hsp := spot_of_cell hc0
        obtain ⟨b, off, spot⟩ := a
        have hspot : spot = none := by simpa [Addr.add] using hsp
        subst hspot
        refine .inr ⟨b, off, rfl, fun j hj => ?_⟩
        obtain ⟨_, h3, h4, h5, h6⟩ := hq j hj
        rw [Addr.add_lit] at h3 h4 h5 h6
        exact ⟨h3, by rw [Nat.add_assoc]; exact h4, by rw [Nat.add_assoc]; exact h5, by rw [Nat.add_assoc]; exact h6⟩
    · obtain ⟨i, hi', rfl⟩ := List.getElem_of_mem hx
      exact (hq i hi').1
end
end Go.Proofs.Ytpfikhamokjdjaa
