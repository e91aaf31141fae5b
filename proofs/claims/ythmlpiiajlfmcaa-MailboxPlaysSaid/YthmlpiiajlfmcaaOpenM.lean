/- How slices of acts with a term (Kind, T, N) that came in are read. No program is named here. -/
import Derived.Test.YthmlpiiajlfmcaaOpenT
namespace Go.Proofs.Ythmlpiiajlfmcaa
open Go.ChangeShapes Go.WideShapes Go.ChangeAt Go.RowKit Go.Joins Go.Deep
set_option linter.unusedVariables false

/-- An act with a term. -/
structure MAct where
  kind : Int
  t : TV
  n : Int
def MActAt (w : World) (b o : Nat) (a : MAct) : Prop := w.cell? ⟨b, o, none⟩ = some (.int .i64 a.kind) ∧ a.t.At w b (o + 1) ∧ w.cell? ⟨b, o + 5, none⟩ = some (.int .i64 a.n)
/-- A slice with the address A and the capacity c reads as these acts. -/
def RdMA (w : World) (A : Option Addr) (c : Nat) (l : List MAct) : Prop := l.length ≤ c ∧ c ≤ 9223372036854775807 ∧ (l = [] ∨ ∃ b o, A = some ⟨b, o, none⟩ ∧ ∀ j, (h : j < l.length) → MActAt w b (o + j * 6) l[j])
theorem RdMA.below {w w' : World} {A : Option Addr} {c : Nat} {l : List MAct} (h : RdMA w A c l) (hb : Below w.heap.size w w') : RdMA w' A c l := by
  obtain ⟨h1, h2, h⟩ := h
  refine ⟨h1, h2, ?_⟩
  rcases h with rfl | ⟨b, o, rfl, h⟩
  · exact .inl rfl
  · refine .inr ⟨b, o, rfl, fun j hj => ?_⟩
    obtain ⟨g0, g1, g2⟩ := h j hj
    exact ⟨(hb.cell (World.block_lt_of_cell? w _ g0)).trans g0, TV.At.kept (.of_below hb) _ _ _ g1, (hb.cell (World.block_lt_of_cell? w _ g2)).trans g2⟩
/-- An act, read. -/
theorem RdMA.item {w : World} {A : Option Addr} {c : Nat} {l : List MAct} (h : RdMA w A c l) {k : Nat} (hk : k < l.length) : ∃ b o A' c', A = some ⟨b, o, none⟩ ∧ w.cell? ⟨b, o + k * 6, none⟩ = some (.int .i64 l[k].kind) ∧ w.cell? ⟨b, o + k * 6 + 1, none⟩ = some (.int .i64 l[k].t.kind) ∧ w.cell? ⟨b, o + k * 6 + 2, none⟩ = some (.int .i64 l[k].t.int) ∧ w.cell? ⟨b, o + k * 6 + 3, none⟩ = some (.string ⟨l[k].t.name.toArray⟩) ∧ w.cell? ⟨b, o + k * 6 + 4, none⟩ = some (.slice A' l[k].t.items.length c') ∧ w.cell? ⟨b, o + k * 6 + 5, none⟩ = some (.int .i64 l[k].n) ∧ RdM w A' c' l[k].t.items := by
  obtain ⟨_, _, h⟩ := h
  rcases h with rfl | ⟨b, o, rfl, h⟩
  · simp at hk
  · obtain ⟨g0, g1, g2⟩ := h k hk
    obtain ⟨k0, k1, k2, A', c', k3, k4⟩ := (TV.at_iff _ _ _).1 g1
    exact ⟨b, o, A', c', rfl, g0, k0, k1, k2, k3, g2, k4⟩

section
variable {H : Type} {enc : TypeId × Value → H} {P : Program} {w : World} {base : Nat} {spare : Nat → Bool} {held : Bool}
/-- A slice of acts that came in as an argument. -/
theorem open_macts {r : Reach} {b0 : Nat} {ta te t ts : TypeId} {a0 a1 a2 : Field} {f0 f1 f2 f3 : Field} {v : Value} {d : DataW H} {p : List MemPlace} (hta : P.underlying ta = some (.slice te)) (hte : P.underlying te = some (.struct #[a0, a1, a2])) (hCe : P.cellsOf te = 6)
    (ho0 : a0.offset = 0) (ho1 : a1.offset = 1) (ho2 : a2.offset = 5) (hc0 : P.cellsOf a0.type = 1) (hc2 : P.cellsOf a2.type = 1) (hat : a1.type = t) (g0 : P.underlying a0.type = some (.int .i64)) (g2 : P.underlying a2.type = some (.int .i64))
    (ht : P.underlying t = some (.struct #[f0, f1, f2, f3])) (hone : oneCellFields P #[f0, f1, f2, f3] = true) (hC : P.cellsOf t = 4)
    (h0 : P.underlying f0.type = some (.int .i64)) (h1 : P.underlying f1.type = some (.int .i64)) (h2 : P.underlying f2.type = some .string) (h3 : P.underlying f3.type = some (.slice t)) (hv : Value.okWide P w r b0 ta v) (h : DataW.Trod enc P w base spare held ta v d p) (hw : Wt P ta d) :
    ∃ (l : List MAct) (A : Option Addr) (c : Nat), v = .slice A l.length c ∧ RdMA w A c l ∧ (∀ a ∈ l, a.t.named) ∧ ∀ a ∈ l, (-9223372036854775808 ≤ a.kind ∧ a.kind ≤ 9223372036854775807) ∧ (-9223372036854775808 ≤ a.n ∧ a.n ≤ 9223372036854775807) ∧ a.t.inb := by
  subst hat
  obtain ⟨A', len', cap', rfl⟩ := okWide_slice hta hv
  obtain ⟨fuel, hf⟩ := h
  rcases DataW.trod_slice hta hf with ⟨he, _⟩ | ⟨a, len, cap, elems, rest, n, hfu, he, hx, hb, hl, hm, hlen, hel, _, _⟩
  · obtain ⟨rfl, rfl, rfl⟩ := Value.slice.inj (List.cons.inj he).1
    exact ⟨[], none, 0, rfl, ⟨Nat.le_refl _, by omega, .inl rfl⟩, fun a ha => by simp at ha, fun a ha => by simp at ha⟩
  · obtain ⟨rfl, rfl, rfl⟩ := Value.slice.inj (List.cons.inj he).1
    obtain rfl : d = _ := congrArg Prod.fst hx
    rw [hCe] at hel
    have step : ∀ i, i < len' → ∃ av : MAct, (av.t.named ∧ (-9223372036854775808 ≤ av.kind ∧ av.kind ≤ 9223372036854775807) ∧ (-9223372036854775808 ≤ av.n ∧ av.n ≤ 9223372036854775807) ∧ av.t.inb) ∧ ∃ B c, w.cell? (a.add (i * 6)) = some (.int .i64 av.kind) ∧ w.cell? (a.add (i * 6 + 1)) = some (.int .i64 av.t.kind) ∧ w.cell? (a.add (i * 6 + 2)) = some (.int .i64 av.t.int) ∧ w.cell? (a.add (i * 6 + 3)) = some (.string ⟨av.t.name.toArray⟩) ∧ w.cell? (a.add (i * 6 + 4)) = some (.slice B av.t.items.length c) ∧ w.cell? (a.add (i * 6 + 5)) = some (.int .i64 av.n) ∧ RdM w B c av.t.items := by
      intro i hil
      have he := hel i hil
      rw [List.getElem?_eq_getElem (by omega)] at he
      obtain ⟨cs', hc', ht'⟩ := Option.bind_eq_some_iff.1 he
      obtain ⟨_, hcl, hcell⟩ := World.cells?_some hc'
      have hwi : Wt P te (elems[i]'(by omega)).1 := wt_elem hta hw (List.mem_map.2 ⟨_, List.getElem_mem _, rfl⟩)
      obtain ⟨xs, n', hn', hx', hl', hlen', hfs⟩ := DataW.trod_struct hte ht'
      rw [hCe] at hl'
      obtain ⟨y0, y1, y2, rfl⟩ : ∃ y0 y1 y2, xs = [y0, y1, y2] := by
        match xs, hlen' with
        | [y0, y1, y2], _ => exact ⟨y0, y1, y2, rfl⟩
      obtain ⟨v0, u0, u1, u2, u3, v2, rfl⟩ : ∃ v0 u0 u1 u2 u3 v2, cs' = [v0, u0, u1, u2, u3, v2] := by
        match cs', hl' with
        | [v0, u0, u1, u2, u3, v2], _ => exact ⟨v0, u0, u1, u2, u3, v2, rfl⟩
      · skip
        have t0 := hfs 0 a0 rfl
        have t1 := hfs 1 a1 rfl
        have t2 := hfs 2 a2 rfl
        rw [hx'] at hwi
        have w1 : Wt P a1.type y1.1 := wt_field hte hwi (j := 1) rfl rfl
        obtain ⟨z0, e0, _, b0⟩ := DataW.trod_int g0 (by simpa [ho0, hc0] using t0)
        obtain ⟨z2, e2, _, b2⟩ := DataW.trod_int g2 (by simpa [ho2, hc2] using t2)
        have t1' : DataW.trod enc P w base spare held n' a1.type [u0, u1, u2, u3] = some y1 := by simpa [ho1, hC] using t1
        obtain ⟨tv, B, c, e1, hr, hnm, hib⟩ := termOpen (ts := a1.type) ht hone hC h0 h1 h2 h3 n' n' (Nat.le_refl _) _ _ t1' w1
        injection e0 with e0
        injection e2 with e2
        simp only [List.cons.injEq, and_true] at e1
        obtain ⟨e10, e11, e12, e13⟩ := e1
        subst e0 e2 e10 e11 e12 e13
        have c0 := hcell 0 (by omega)
        have c1 := hcell 1 (by omega)
        have c2 := hcell 2 (by omega)
        have c3 := hcell 3 (by omega)
        have c4 := hcell 4 (by omega)
        have c5 := hcell 5 (by omega)
        rw [Go.Deep.add_add] at c0 c1 c2 c3 c4 c5
        exact ⟨⟨z0, tv, z2⟩, ⟨hnm, bounds_i64 b0, bounds_i64 b2, hib⟩, B, c, c0, c1, c2, c3, c4, c5, hr⟩
    obtain ⟨l, hll, hq⟩ := list_of len' step
    subst hll
    refine ⟨l, some a, cap', rfl, ⟨hl, by unfold maxLen at hm; exact hm, ?_⟩, fun av hav => ?_, fun av hav => ?_⟩
    · rcases Nat.eq_zero_or_pos l.length with hz | hz
      · exact .inl (List.eq_nil_of_length_eq_zero hz)
      · obtain ⟨_, _, _, hc0, _⟩ := hq 0 hz
        have hsp := spot_of_cell hc0
        obtain ⟨b, off, spot⟩ := a
        have hspot : spot = none := by simpa [Addr.add] using hsp
        subst hspot
        refine .inr ⟨b, off, rfl, fun k hk => ?_⟩
        obtain ⟨_, B, c', k0, k1, k2, k3, k4, k5, hr⟩ := hq k hk
        rw [Addr.add_lit] at k0 k1 k2 k3 k4 k5
        exact ⟨k0, (TV.at_iff _ _ _).2 ⟨k1, k2, k3, B, c', k4, hr⟩, k5⟩
    · obtain ⟨k, hk, rfl⟩ := List.getElem_of_mem hav
      exact (hq k hk).1.1
    · obtain ⟨k, hk, rfl⟩ := List.getElem_of_mem hav
      exact (hq k hk).1.2
end
end Go.Proofs.Ythmlpiiajlfmcaa
