/- How arguments that came in are read: bytes, sealed things. How slices of acts (Kind, N, P) that came in are read; the reach of each part. No program is named here. How terms and slices of terms that came in are read. No program is named here. -/
import Derived.Test.YtmpknhdfglbocaaGreatBase
import Derived.ProofKit
import Derived.OpenShut
import Derived.ShutString
import Derived.ChangeOld
import Derived.Lib.SmallJoins
import Derived.SizedLaws
import Derived.Deep.Slices
import Derived.Deep.Strs
import Derived.Deep.Fields
import Derived.Lib.Hide
import Derived.Test.YtmpknhdfglbocaaGreatTermR
namespace Go.Proofs.YtmpknhdfglbocaaGreat
section
open Go.ChangeShapes Go.WideShapes Go.ChangeAt Go.RowKit Go.Joins
set_option linter.unusedVariables false

section
variable {H : Type} {enc : TypeId × Value → H} {P : Program} {w : World} {base : Nat} {spare : Nat → Bool} {held : Bool}

theorem spot_of_cell {w : World} {a : Addr} {v : Value} (h : w.cell? a = some v) : a.spot = none := World.cell?_spot h

end
end
section
open Go.ChangeShapes Go.WideShapes Go.ChangeAt Go.RowKit Go.Joins Go.Deep
set_option linter.unusedVariables false

/-- Nothing of it weighs more than the reach. -/
def Wt {H : Type} (P : Program) (t : TypeId) (d : DataW H) : Prop := ∀ n ∈ d.weights P t, n ≤ 140737488351232

theorem wt_arg {H : Type} {P : Program} {ts : List TypeId} {ds : List (DataW H)} {j : Nat} {t : TypeId} {d : DataW H} (h : (DataW.weightsEach P ts ds).all (· ≤ reachBytes) = true) (ht : ts[j]? = some t) (hd : ds[j]? = some d) : Wt P t d := by
  intro n hn
  have := List.all_eq_true.1 h n (DataW.weights_mem_each ht hd n hn)
  exact of_decide_eq_true this
theorem mem_weightsAll {H : Type} {P : Program} {e : TypeId} {d : DataW H} {n : Nat} : ∀ {l : List (DataW H)}, d ∈ l → n ∈ d.weights P e → n ∈ DataW.weightsAll P e l
  | x :: r, hd, hn => by
    rw [DataW.weightsAll, List.mem_append]
    rcases List.mem_cons.1 hd with rfl | h
    · exact .inl hn
    · exact .inr (mem_weightsAll h hn)
theorem wt_elem {H : Type} {P : Program} {t e : TypeId} {el sp : List (DataW H)} (hu : P.underlying t = some (.slice e)) (h : Wt P t (.slice el sp)) {d : DataW H} (hd : d ∈ el) : Wt P e d := by
  intro n hn
  refine h n ?_
  simp only [DataW.weights, hu, List.mem_cons, List.mem_append]
  exact .inr (.inl (mem_weightsAll hd hn))
theorem wt_field {H : Type} {P : Program} {t : TypeId} {fs : Array Field} {ds : List (DataW H)} (hu : P.underlying t = some (.struct fs)) (h : Wt P t (.agg ds)) {j : Nat} {u : TypeId} {d : DataW H} (ht : (fs.toList.map (·.type))[j]? = some u) (hd : ds[j]? = some d) : Wt P u d := by
  intro n hn
  refine h n ?_
  simp only [DataW.weights, hu]
  exact DataW.weights_mem_each ht hd n hn

theorem list_of {α : Type} {Q : Nat → α → Prop} : ∀ n : Nat, (∀ i, i < n → ∃ x, Q i x) → ∃ l : List α, l.length = n ∧ ∀ i, (h : i < l.length) → Q i l[i]
  | 0, _ => ⟨[], rfl, fun i h => by simp at h⟩
  | n + 1, h => by
    obtain ⟨l, hl, hq⟩ := list_of n (fun i hi => h i (by omega))
    obtain ⟨x, hx⟩ := h n (by omega)
    refine ⟨l ++ [x], by simp [hl], fun i hi => ?_⟩
    by_cases hin : i < l.length
    · rw [List.getElem_append_left hin]
      exact hq i hin
    · simp at hi
      obtain rfl : i = n := by omega
      rw [List.getElem_append_right (by omega)]
      simpa [hl] using hx

/-- An act. -/
structure ActV where
  kind : Int
  n : Int
  p : List UInt8
structure ActV.Ok (a : ActV) : Prop where
  k1 : -9223372036854775808 ≤ a.kind
  k2 : a.kind ≤ 9223372036854775807
  n1 : -9223372036854775808 ≤ a.n
  n2 : a.n ≤ 9223372036854775807
  p2 : a.p.length ≤ 140737488351232
/-- An act in memory. -/
def ActAt (w : World) (b o : Nat) (a : ActV) : Prop :=
  ∃ B c, w.cell? ⟨b, o, none⟩ = some (.int .i64 a.kind) ∧ w.cell? ⟨b, o + 1, none⟩ = some (.int .i64 a.n) ∧ w.cell? ⟨b, o + 2, none⟩ = some (.slice B a.p.length c) ∧ Rd w B a.p ∧ a.p.length ≤ c
/-- A slice with the address A reads as these acts. -/
def RdA (w : World) (A : Option Addr) (l : List ActV) : Prop := l = [] ∨ ∃ b off, A = some ⟨b, off, none⟩ ∧ ∀ j, (h : j < l.length) → ActAt w b (off + j * 3) l[j]

theorem ActAt.below {w w' : World} {b o : Nat} {a : ActV} (h : ActAt w b o a) (hb : Below w.heap.size w w') : ActAt w' b o a := by
  obtain ⟨B, c, h0, h1, h2, hr, hc⟩ := h
  exact ⟨B, c, (hb.cell (World.block_lt_of_cell? w _ h0)).trans h0, (hb.cell (World.block_lt_of_cell? w _ h1)).trans h1, (hb.cell (World.block_lt_of_cell? w _ h2)).trans h2, hr.below hb, hc⟩
theorem RdA.below {w w' : World} {A : Option Addr} {l : List ActV} (h : RdA w A l) (hb : Below w.heap.size w w') : RdA w' A l := by
  rcases h with rfl | ⟨b, off, rfl, h⟩
  · exact .inl rfl
  · exact .inr ⟨b, off, rfl, fun j hj => (h j hj).below hb⟩
theorem RdA.at_ {w : World} {A : Option Addr} {l : List ActV} (h : RdA w A l) {k : Nat} (hk : k < l.length) : ∃ b off, A = some ⟨b, off, none⟩ ∧ ActAt w b (off + k * 3) l[k] := by
  rcases h with rfl | ⟨b, off, rfl, h⟩
  · simp at hk
  · exact ⟨b, off, rfl, h k hk⟩

section
variable {H : Type} {enc : TypeId × Value → H} {P : Program} {w : World} {base : Nat} {spare : Nat → Bool} {held : Bool}

end
end
section
open Go.ChangeShapes Go.WideShapes Go.ChangeAt Go.RowKit Go.Joins Go.Deep
set_option linter.unusedVariables false

mutual
/-- Kinds and numbers are such as an int holds. -/
def TV.inb : TV → Prop
  | .mk k n _ l => (-9223372036854775808 ≤ k ∧ k ≤ 9223372036854775807) ∧ (-9223372036854775808 ≤ n ∧ n ≤ 9223372036854775807) ∧ TV.inbL l
def TV.inbL : List TV → Prop
  | [] => True
  | t :: r => t.inb ∧ TV.inbL r
end
theorem inbL_of : ∀ {l : List TV}, (∀ k (h : k < l.length), l[k].inb) → TV.inbL l
  | [], _ => by simp [TV.inbL]
  | t :: r, h => by
    simp only [TV.inbL]
    exact ⟨h 0 (Nat.succ_pos _), inbL_of fun k hk => h (k + 1) (Nat.succ_lt_succ hk)⟩
theorem namedL_of : ∀ {l : List TV}, (∀ k (h : k < l.length), l[k].named) → TV.namedL l
  | [], _ => by simp [TV.namedL]
  | t :: r, h => by
    simp only [TV.namedL]
    exact ⟨h 0 (Nat.succ_pos _), namedL_of fun k hk => h (k + 1) (Nat.succ_lt_succ hk)⟩
theorem TV.inb_iff (t : TV) : t.inb ↔ (-9223372036854775808 ≤ t.kind ∧ t.kind ≤ 9223372036854775807) ∧ (-9223372036854775808 ≤ t.int ∧ t.int ≤ 9223372036854775807) ∧ TV.inbL t.items := by
  cases t
  simp only [TV.inb, TV.kind, TV.int, TV.items]

section
variable {H : Type} {enc : TypeId × Value → H} {P : Program} {w : World} {base : Nat} {spare : Nat → Bool} {held : Bool}
/-- Whatever is read as a term is one. -/
def TermOpen (enc : TypeId × Value → H) (P : Program) (w : World) (base : Nat) (spare : Nat → Bool) (held : Bool) (t : TypeId) (fuel : Nat) : Prop :=
  ∀ cs x, DataW.trod enc P w base spare held fuel t cs = some x → Wt P t x.1 → ∃ (tv : TV) (A : Option Addr) (c : Nat), cs = [.int .i64 tv.kind, .int .i64 tv.int, .string ⟨tv.name.toArray⟩, .slice A tv.items.length c] ∧ RdM w A c tv.items ∧ tv.named ∧ tv.inb

theorem open_row {t ts : TypeId} {m : Nat} {cs : List Value} {x : DataW H × List MemPlace} (ih : ∀ k, k < m → TermOpen enc P w base spare held t k) (hts : P.underlying ts = some (.slice t)) (hC : P.cellsOf t = 4)
    (h : DataW.trod enc P w base spare held m ts cs = some x) (hw : Wt P ts x.1) : ∃ (l : List TV) (A : Option Addr) (c : Nat), cs = [.slice A l.length c] ∧ RdM w A c l ∧ TV.namedL l ∧ TV.inbL l := by
  rcases DataW.trod_slice hts h with ⟨rfl, _⟩ | ⟨a, len, cap, elems, rest, n, hfu, rfl, hx, hb, hl, hm, hlen, hel, _, _⟩
  · exact ⟨[], none, 0, rfl, ⟨Nat.le_refl _, by omega, .inl rfl⟩, by simp [TV.namedL], by simp [TV.inbL]⟩
  · rw [hx] at hw
    rw [hC] at hel
    have step : ∀ i, i < len → ∃ tv : TV, (tv.named ∧ tv.inb) ∧ ∃ A' c', w.cell? (a.add (i * 4)) = some (.int .i64 tv.kind) ∧ w.cell? (a.add (i * 4 + 1)) = some (.int .i64 tv.int) ∧ w.cell? (a.add (i * 4 + 2)) = some (.string ⟨tv.name.toArray⟩) ∧ w.cell? (a.add (i * 4 + 3)) = some (.slice A' tv.items.length c') ∧ RdM w A' c' tv.items := by
      intro i hil
      have he := hel i hil
      rw [List.getElem?_eq_getElem (by omega)] at he
      obtain ⟨cs', hc', ht'⟩ := Option.bind_eq_some_iff.1 he
      obtain ⟨_, hcl, hcell⟩ := World.cells?_some hc'
      have hwi : Wt P t (elems[i]'(by omega)).1 := wt_elem hts hw (List.mem_map.2 ⟨_, List.getElem_mem _, rfl⟩)
      obtain ⟨tv, A', c', rfl, hr, hn, hi⟩ := ih n (by omega) cs' _ ht' hwi
      have c0 := hcell 0 (by omega)
      have c1 := hcell 1 (by omega)
      have c2 := hcell 2 (by omega)
      have c3 := hcell 3 (by omega)
      rw [Go.Deep.add_add] at c0 c1 c2 c3
      exact ⟨tv, ⟨hn, hi⟩, A', c', c0, c1, c2, c3, hr⟩
    obtain ⟨l, hll, hq⟩ := list_of len step
    subst hll
    refine ⟨l, some a, cap, rfl, ⟨hl, by unfold maxLen at hm; exact hm, ?_⟩, namedL_of fun k hk => (hq k hk).1.1, inbL_of fun k hk => (hq k hk).1.2⟩
    rcases Nat.eq_zero_or_pos l.length with hz | hz
    · exact .inl (List.eq_nil_of_length_eq_zero hz)
    · obtain ⟨_, _, _, hc0, _⟩ := hq 0 hz
      have hsp := spot_of_cell hc0
      obtain ⟨b, off, spot⟩ := a
      have hspot : spot = none := by simpa [Addr.add] using hsp
      subst hspot
      refine .inr ⟨b, off, rfl, row_of fun k hk => ?_⟩
      obtain ⟨_, A', c', g0, g1, g2, g3, hr⟩ := hq k hk
      rw [Addr.add_lit] at g0 g1 g2 g3
      exact (TV.at_iff _ _ _).2 ⟨g0, g1, g2, A', c', g3, hr⟩

theorem termOpen {t ts : TypeId} {f0 f1 f2 f3 : Field} (ht : P.underlying t = some (.struct #[f0, f1, f2, f3])) (hone : oneCellFields P #[f0, f1, f2, f3] = true) (hC : P.cellsOf t = 4)
    (h0 : P.underlying f0.type = some (.int .i64)) (h1 : P.underlying f1.type = some (.int .i64)) (h2 : P.underlying f2.type = some .string) (h3 : P.underlying f3.type = some (.slice t)) : ∀ N fuel, fuel ≤ N → TermOpen enc P w base spare held t fuel := by
  intro N
  induction N with
  | zero =>
    intro fuel hf cs x h _
    obtain rfl : fuel = 0 := by omega
    simp [DataW.trod] at h
  | succ N ih =>
    intro fuel hf cs x h hw
    obtain ⟨xs, n, hn, hx, hl, hlen, hfs⟩ := DataW.trod_struct ht h
    obtain ⟨o0, k0⟩ := hone_of hone 0 f0 rfl
    obtain ⟨o1, k1⟩ := hone_of hone 1 f1 rfl
    obtain ⟨o2, k2⟩ := hone_of hone 2 f2 rfl
    obtain ⟨o3, k3⟩ := hone_of hone 3 f3 rfl
    rw [hC] at hl
    match cs, hl, xs, hlen with
    | [v0, v1, v2, v3], _, [y0, y1, y2, y3], _ =>
      have t0 := hfs 0 f0 rfl
      have t1 := hfs 1 f1 rfl
      have t2 := hfs 2 f2 rfl
      have t3 := hfs 3 f3 rfl
      rw [hx] at hw
      have w2 : Wt P f2.type y2.1 := wt_field ht hw (j := 2) rfl rfl
      have w3 : Wt P f3.type y3.1 := wt_field ht hw (j := 3) rfl rfl
      obtain ⟨z0, e0, _, b0⟩ := DataW.trod_int h0 (by simpa [o0, k0] using t0)
      obtain ⟨z1, e1, _, b1⟩ := DataW.trod_int h1 (by simpa [o1, k1] using t1)
      obtain ⟨s, e2, hd2, _⟩ := DataW.trod_string h2 (by simpa [o2, k2] using t2)
      obtain ⟨l, A, c, e3, hr, hnm, hib⟩ := open_row (m := n) (fun k hk => ih k (by omega)) h3 hC (by simpa [o3, k3] using t3) w3
      injection e0 with e0
      injection e1 with e1
      injection e2 with e2
      injection e3 with e3
      subst e0 e1 e2 e3
      have hsl : s.data.toList.length ≤ 140737488351232 := w2 _ (by rw [hd2]; simp [DataW.weights])
      exact ⟨.mk z0 z1 s.data.toList l, A, c, by simp [TV.kind, TV.int, TV.name, TV.items], hr, (TV.named_iff _).2 ⟨hsl, hnm⟩, (TV.inb_iff _).2 ⟨bounds_i64 b0, bounds_i64 b1, hib⟩⟩

theorem list_array {α : Type} {cs : Array α} {l : List α} (h : cs.toList = l) : cs = l.toArray := by rw [← h]
/-- A term that came in as an argument. -/
theorem open_term {r : Reach} {b0 : Nat} {t : TypeId} {f0 f1 f2 f3 : Field} {v : Value} {d : DataW H} {p : List MemPlace} (ht : P.underlying t = some (.struct #[f0, f1, f2, f3])) (hone : oneCellFields P #[f0, f1, f2, f3] = true) (hC : P.cellsOf t = 4)
    (h0 : P.underlying f0.type = some (.int .i64)) (h1 : P.underlying f1.type = some (.int .i64)) (h2 : P.underlying f2.type = some .string) (h3 : P.underlying f3.type = some (.slice t)) (hv : Value.okWide P w r b0 t v) (h : DataW.Trod enc P w base spare held t v d p) (hw : Wt P t d) :
    ∃ (tv : TV) (A : Option Addr) (c : Nat), v = .agg #[.int .i64 tv.kind, .int .i64 tv.int, .string ⟨tv.name.toArray⟩, .slice A tv.items.length c] ∧ RdM w A c tv.items ∧ tv.named ∧ tv.inb := by
  obtain ⟨cs, rfl, hsz⟩ := okWide_struct ht hv
  obtain ⟨fuel, hf⟩ := h
  obtain ⟨tv, A, c, he, hr, hn, hi⟩ := termOpen (ts := t) ht hone hC h0 h1 h2 h3 fuel fuel (Nat.le_refl _) _ _ hf hw
  have hl : cs.toList = _ := he
  exact ⟨tv, A, c, by rw [list_array hl], hr, hn, hi⟩

end
end
end Go.Proofs.YtmpknhdfglbocaaGreat
