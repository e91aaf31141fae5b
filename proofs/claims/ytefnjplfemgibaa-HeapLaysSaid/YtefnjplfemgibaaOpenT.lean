/- How terms and slices of terms that came in are read. No program is named here. -/
import Derived.Test.YtefnjplfemgibaaOpenL
import Derived.Test.YtefnjplfemgibaaTermK
namespace Go.Proofs.Ytefnjplfemgibaa
open Go.ChangeShapes Go.WideShapes Go.ChangeAt Go.RowKit Go.Joins Go.Deep
set_option linter.unusedVariables false

mutual
/-- Kinds and numbers are such as an int holds. -/
def TV.inb : TV → Prop
  | .mk k n _ l => (-9223372036854775808 ≤ k ∧ k ≤ 9223372036854775807) ∧ (-9223372036854775808 ≤ n ∧ n ≤ 9223372036854775807) ∧ TV.inbL l
def TV.inbL : List TV → Prop
  | [] => True
  | t :: r => t.inb ∧ TV.inbL r
end
theorem inbL_at : ∀ {l : List TV}, TV.inbL l → ∀ {k : Nat} (h : k < l.length), l[k].inb
  | [], _, _, h => by simp at h
  | t :: r, hn, 0, _ => by simp only [TV.inbL] at hn; exact hn.1
  | t :: r, hn, k + 1, h => by simp only [TV.inbL] at hn; exact inbL_at hn.2 (by simpa using h)
theorem inbL_of : ∀ {l : List TV}, (∀ k (h : k < l.length), l[k].inb) → TV.inbL l
  | [], _ => by simp [TV.inbL]
  | t :: r, h => by
    simp only [TV.inbL]
    exact ⟨h 0 (Nat.succ_pos _), inbL_of fun k hk => h (k + 1) (Nat.succ_lt_succ hk)⟩
theorem namedL_of : ∀ {l : List TV}, (∀ k (h : k < l.length), l[k].named) → TV.namedL l
  | [], _ => by simp [TV.namedL]
  | t :: r, h => by
    simp only [TV.namedL]
    exact ⟨h 0 (Nat.succ_pos _), namedL_of fun k hk => h (k + 1) (Nat.succ_lt_succ hk)⟩
theorem TV.inb_iff (t : TV) : t.inb ↔ (-9223372036854775808 ≤ t.kind ∧ t.kind ≤ 9223372036854775807) ∧ (-9223372036854775808 ≤ t.int ∧ t.int ≤ 9223372036854775807) ∧ TV.inbL t.items := by
  cases t
  simp only [TV.inb, TV.kind, TV.int, TV.items]

section
variable {H : Type} {enc : TypeId × Value → H} {P : Program} {w : World} {base : Nat} {spare : Nat → Bool} {held : Bool}
/-- Whatever is read as a term is one. -/
def TermOpen (enc : TypeId × Value → H) (P : Program) (w : World) (base : Nat) (spare : Nat → Bool) (held : Bool) (t : TypeId) (fuel : Nat) : Prop :=
  ∀ cs x, DataW.trod enc P w base spare held fuel t cs = some x → Wt P t x.1 → ∃ (tv : TV) (A : Option Addr) (c : Nat), cs = [.int .i64 tv.kind, .int .i64 tv.int, .string ⟨tv.name.toArray⟩, .slice A tv.items.length c] ∧ RdM w A c tv.items ∧ tv.named ∧ tv.inb

theorem open_row {t ts : TypeId} {m : Nat} {cs : List Value} {x : DataW H × List MemPlace} (ih : ∀ k, k < m → TermOpen enc P w base spare held t k) (hts : P.underlying ts = some (.slice t)) (hC : P.cellsOf t = 4)
    (h : DataW.trod enc P w base spare held m ts cs = some x) (hw : Wt P ts x.1) : ∃ (l : List TV) (A : Option Addr) (c : Nat), cs = [.slice A l.length c] ∧ RdM w A c l ∧ TV.namedL l ∧ TV.inbL l := by
  rcases DataW.trod_slice hts h with ⟨rfl, _⟩ | ⟨a, len, cap, elems, rest, n, hfu, rfl, hx, hb, hl, hm, hlen, hel, _, _⟩
  · exact ⟨[], none, 0, rfl, ⟨Nat.le_refl _, by omega, .inl rfl⟩, by simp [TV.namedL], by simp [TV.inbL]⟩
  · rw [hx] at hw
    rw [hC] at hel
    have step : ∀ i, i < len → ∃ tv : TV, (tv.named ∧ tv.inb) ∧ ∃ A' c', w.cell? (a.add (i * 4)) = some (.int .i64 tv.kind) ∧ w.cell? (a.add (i * 4 + 1)) = some (.int .i64 tv.int) ∧ w.cell? (a.add (i * 4 + 2)) = some (.string ⟨tv.name.toArray⟩) ∧ w.cell? (a.add (i * 4 + 3)) = some (.slice A' tv.items.length c') ∧ RdM w A' c' tv.items := by
      intro i hil
      have he := hel i hil
      rw [List.getElem?_eq_getElem (by omega)] at he
      obtain ⟨cs', hc', ht'⟩ := Option.bind_eq_some_iff.1 he
      obtain ⟨_, hcl, hcell⟩ := World.cells?_some hc'
      have hwi : Wt P t (elems[i]'(by omega)).1 := wt_elem hts hw (List.mem_map.2 ⟨_, List.getElem_mem _, rfl⟩)
      obtain ⟨tv, A', c', rfl, hr, hn, hi⟩ := ih n (by omega) cs' _ ht' hwi
      have c0 := hcell 0 (by omega)
      have c1 := hcell 1 (by omega)
      have c2 := hcell 2 (by omega)
      have c3 := hcell 3 (by omega)
      rw [Go.Deep.add_add] at c0 c1 c2 c3
      exact ⟨tv, ⟨hn, hi⟩, A', c', c0, c1, c2, c3, hr⟩
    obtain ⟨l, hll, hq⟩ := list_of len step
    subst hll
    refine ⟨l, some a, cap, rfl, ⟨hl, by unfold maxLen at hm; exact hm, ?_⟩, namedL_of fun k hk => (hq k hk).1.1, inbL_of fun k hk => (hq k hk).1.2⟩
    rcases Nat.eq_zero_or_pos l.length with hz | hz
    · exact .inl (List.eq_nil_of_length_eq_zero hz)
    · obtain ⟨_, _, _, hc0, _⟩ := hq 0 hz
      have hsp := spot_of_cell hc0
      obtain ⟨b, off, spot⟩ := a
      have hspot : spot = none := by simpa [Addr.add] using hsp
      subst hspot
      refine .inr ⟨b, off, rfl, row_of fun k hk => ?_⟩
      obtain ⟨_, A', c', g0, g1, g2, g3, hr⟩ := hq k hk
      rw [Addr.add_lit] at g0 g1 g2 g3
      exact (TV.at_iff _ _ _).2 ⟨g0, g1, g2, A', c', g3, hr⟩

theorem termOpen {t ts : TypeId} {f0 f1 f2 f3 : Field} (ht : P.underlying t = some (.struct #[f0, f1, f2, f3])) (hone : oneCellFields P #[f0, f1, f2, f3] = true) (hC : P.cellsOf t = 4)
    (h0 : P.underlying f0.type = some (.int .i64)) (h1 : P.underlying f1.type = some (.int .i64)) (h2 : P.underlying f2.type = some .string) (h3 : P.underlying f3.type = some (.slice t)) : ∀ N fuel, fuel ≤ N → TermOpen enc P w base spare held t fuel := by
  intro N
  induction N with
  | zero =>
    intro fuel hf cs x h _
    obtain rfl : fuel = 0 := by omega
    simp [DataW.trod] at h
  | succ N ih =>
    intro fuel hf cs x h hw
    obtain ⟨xs, n, hn, hx, hl, hlen, hfs⟩ := DataW.trod_struct ht h
    obtain ⟨o0, k0⟩ := hone_of hone 0 f0 rfl
    obtain ⟨o1, k1⟩ := hone_of hone 1 f1 rfl
    obtain ⟨o2, k2⟩ := hone_of hone 2 f2 rfl
    obtain ⟨o3, k3⟩ := hone_of hone 3 f3 rfl
    rw [hC] at hl
    match cs, hl, xs, hlen with
    | [v0, v1, v2, v3], _, [y0, y1, y2, y3], _ =>
      have t0 := hfs 0 f0 rfl
      have t1 := hfs 1 f1 rfl
      have t2 := hfs 2 f2 rfl
      have t3 := hfs 3 f3 rfl
      rw [hx] at hw
      have w2 : Wt P f2.type y2.1 := wt_field ht hw (j := 2) rfl rfl
      have w3 : Wt P f3.type y3.1 := wt_field ht hw (j := 3) rfl rfl
      obtain ⟨z0, e0, _, b0⟩ := DataW.trod_int h0 (by simpa [o0, k0] using t0)
      obtain ⟨z1, e1, _, b1⟩ := DataW.trod_int h1 (by simpa [o1, k1] using t1)
      obtain ⟨s, e2, hd2, _⟩ := DataW.trod_string h2 (by simpa [o2, k2] using t2)
      obtain ⟨l, A, c, e3, hr, hnm, hib⟩ := open_row (m := n) (fun k hk => ih k (by omega)) h3 hC (by simpa [o3, k3] using t3) w3
      injection e0 with e0
      injection e1 with e1
      injection e2 with e2
      injection e3 with e3
      subst e0 e1 e2 e3
      have hsl : s.data.toList.length ≤ 140737488351232 := w2 _ (by rw [hd2]; simp [DataW.weights])
      exact ⟨.mk z0 z1 s.data.toList l, A, c, by simp [TV.kind, TV.int, TV.name, TV.items], hr, (TV.named_iff _).2 ⟨hsl, hnm⟩, (TV.inb_iff _).2 ⟨bounds_i64 b0, bounds_i64 b1, hib⟩⟩

theorem list_array {α : Type} {cs : Array α} {l : List α} (h : cs.toList = l) : cs = l.toArray := by rw [← h]
/-- A term that came in as an argument. -/
theorem open_term {r : Reach} {b0 : Nat} {t : TypeId} {f0 f1 f2 f3 : Field} {v : Value} {d : DataW H} {p : List MemPlace} (ht : P.underlying t = some (.struct #[f0, f1, f2, f3])) (hone : oneCellFields P #[f0, f1, f2, f3] = true) (hC : P.cellsOf t = 4)
    (h0 : P.underlying f0.type = some (.int .i64)) (h1 : P.underlying f1.type = some (.int .i64)) (h2 : P.underlying f2.type = some .string) (h3 : P.underlying f3.type = some (.slice t)) (hv : Value.okWide P w r b0 t v) (h : DataW.Trod enc P w base spare held t v d p) (hw : Wt P t d) :
    ∃ (tv : TV) (A : Option Addr) (c : Nat), v = .agg #[.int .i64 tv.kind, .int .i64 tv.int, .string ⟨tv.name.toArray⟩, .slice A tv.items.length c] ∧ RdM w A c tv.items ∧ tv.named ∧ tv.inb := by
  obtain ⟨cs, rfl, hsz⟩ := okWide_struct ht hv
  obtain ⟨fuel, hf⟩ := h
  obtain ⟨tv, A, c, he, hr, hn, hi⟩ := termOpen (ts := t) ht hone hC h0 h1 h2 h3 fuel fuel (Nat.le_refl _) _ _ hf hw
  have hl : cs.toList = _ := he
  exact ⟨tv, A, c, by rw [list_array hl], hr, hn, hi⟩
/-- A slice of terms that came in as an argument. -/
theorem open_terms {r : Reach} {b0 : Nat} {t ts : TypeId} {f0 f1 f2 f3 : Field} {v : Value} {d : DataW H} {p : List MemPlace} (hts : P.underlying ts = some (.slice t)) (ht : P.underlying t = some (.struct #[f0, f1, f2, f3])) (hone : oneCellFields P #[f0, f1, f2, f3] = true) (hC : P.cellsOf t = 4)
    (h0 : P.underlying f0.type = some (.int .i64)) (h1 : P.underlying f1.type = some (.int .i64)) (h2 : P.underlying f2.type = some .string) (h3 : P.underlying f3.type = some (.slice t)) (hv : Value.okWide P w r b0 ts v) (h : DataW.Trod enc P w base spare held ts v d p) (hw : Wt P ts d) :
    ∃ (l : List TV) (A : Option Addr) (c : Nat), v = .slice A l.length c ∧ RdM w A c l ∧ TV.namedL l ∧ TV.inbL l := by
  obtain ⟨A', len', cap', rfl⟩ := okWide_slice hts hv
  obtain ⟨fuel, hf⟩ := h
  obtain ⟨l, A, c, he, hr, hn, hi⟩ := open_row (fun k _ => termOpen (ts := t) ht hone hC h0 h1 h2 h3 k k (Nat.le_refl _)) hts hC hf hw
  injection he with he
  exact ⟨l, A, c, he, hr, hn, hi⟩

end
end Go.Proofs.Ytefnjplfemgibaa
