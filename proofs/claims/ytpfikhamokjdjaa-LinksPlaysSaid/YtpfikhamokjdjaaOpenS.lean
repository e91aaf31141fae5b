/- How slices of acts (Kind, N, P) that came in are read; the reach of each part. No program is named here. -/
import Derived.Test.YtpfikhamokjdjaaOpen
import Derived.SizedLaws
import Derived.Deep.Slices
import Derived.Deep.Strs
import Derived.Deep.Fields
import Derived.Lib.Hide
namespace Go.Proofs.Ytpfikhamokjdjaa
open Go.ChangeShapes Go.WideShapes Go.ChangeAt Go.RowKit Go.Joins Go.Deep
set_option linter.unusedVariables false

/-- Nothing of it weighs more than the reach. -/
def Wt {H : Type} (P : Program) (t : TypeId) (d : DataW H) : Prop := ∀ n ∈ d.weights P t, n ≤ 140737488351232

theorem wt_arg {H : Type} {P : Program} {ts : List TypeId} {ds : List (DataW H)} {j : Nat} {t : TypeId} {d : DataW H} (h : (DataW.weightsEach P ts ds).all (· ≤ reachBytes) = true) (ht : ts[j]? = some t) (hd : ds[j]? = some d) : Wt P t d := by
  intro n hn
  have := List.all_eq_true.1 h n (DataW.weights_mem_each ht hd n hn)
  exact of_decide_eq_true this
theorem mem_weightsAll {H : Type} {P : Program} {e : TypeId} {d : DataW H} {n : Nat} : ∀ {l : List (DataW H)}, d ∈ l → n ∈ d.weights P e → n ∈ DataW.weightsAll P e l
  | x :: r, hd, hn => by
    rw [DataW.weightsAll, List.mem_append]
    rcases List.mem_cons.1 hd with rfl | h
    · exact .inl hn
    · exact .inr (mem_weightsAll h hn)
theorem wt_elem {H : Type} {P : Program} {t e : TypeId} {el sp : List (DataW H)} (hu : P.underlying t = some (.slice e)) (h : Wt P t (.slice el sp)) {d : DataW H} (hd : d ∈ el) : Wt P e d := by
  intro n hn
  refine h n ?_
  simp only [DataW.weights, hu, List.mem_cons, List.mem_append]
  exact .inr (.inl (mem_weightsAll hd hn))
theorem wt_len {H : Type} {P : Program} {t e : TypeId} {el sp : List (DataW H)} (hu : P.underlying t = some (.slice e)) (h : Wt P t (.slice el sp)) : (el.length + sp.length) * P.bytesOf e ≤ 140737488351232 :=
  h _ (by simp [DataW.weights, hu])
theorem wt_field {H : Type} {P : Program} {t : TypeId} {fs : Array Field} {ds : List (DataW H)} (hu : P.underlying t = some (.struct fs)) (h : Wt P t (.agg ds)) {j : Nat} {u : TypeId} {d : DataW H} (ht : (fs.toList.map (·.type))[j]? = some u) (hd : ds[j]? = some d) : Wt P u d := by
  intro n hn
  refine h n ?_
  simp only [DataW.weights, hu]
  exact DataW.weights_mem_each ht hd n hn

theorem list_of {α : Type} {Q : Nat → α → Prop} : ∀ n : Nat, (∀ i, i < n → ∃ x, Q i x) → ∃ l : List α, l.length = n ∧ ∀ i, (h : i < l.length) → Q i l[i]
  | 0, _ => ⟨[], rfl, fun i h => by simp at h⟩
  | n + 1, h => by
    obtain ⟨l, hl, hq⟩ := list_of n (fun i hi => h i (by omega))
    obtain ⟨x, hx⟩ := h n (by omega)
    refine ⟨l ++ [x], by simp [hl], fun i hi => ?_⟩
    by_cases hin : i < l.length
    · rw [List.getElem_append_left hin]
      exact hq i hin
    · simp at hi
      obtain rfl : i = n := by omega
      rw [List.getElem_append_right (by omega)]
      simpa [hl] using hx

/-- An act. -/
structure ActV where
  kind : Int
  n : Int
  p : List UInt8
structure ActV.Ok (a : ActV) : Prop where
  k1 : -9223372036854775808 ≤ a.kind
  k2 : a.kind ≤ 9223372036854775807
  n1 : -9223372036854775808 ≤ a.n
  n2 : a.n ≤ 9223372036854775807
  p2 : a.p.length ≤ 140737488351232
/-- An act in memory. -/
def ActAt (w : World) (b o : Nat) (a : ActV) : Prop :=
  ∃ B c, w.cell? ⟨b, o, none⟩ = some (.int .i64 a.kind) ∧ w.cell? ⟨b, o + 1, none⟩ = some (.int .i64 a.n) ∧ w.cell? ⟨b, o + 2, none⟩ = some (.slice B a.p.length c) ∧ Rd w B a.p ∧ a.p.length ≤ c
/-- A slice with the address A reads as these acts. -/
def RdA (w : World) (A : Option Addr) (l : List ActV) : Prop := l = [] ∨ ∃ b off, A = some ⟨b, off, none⟩ ∧ ∀ j, (h : j < l.length) → ActAt w b (off + j * 3) l[j]

theorem ActAt.below {w w' : World} {b o : Nat} {a : ActV} (h : ActAt w b o a) (hb : Below w.heap.size w w') : ActAt w' b o a := by
  obtain ⟨B, c, h0, h1, h2, hr, hc⟩ := h
  exact ⟨B, c, (hb.cell (World.block_lt_of_cell? w _ h0)).trans h0, (hb.cell (World.block_lt_of_cell? w _ h1)).trans h1, (hb.cell (World.block_lt_of_cell? w _ h2)).trans h2, hr.below hb, hc⟩
theorem RdA.below {w w' : World} {A : Option Addr} {l : List ActV} (h : RdA w A l) (hb : Below w.heap.size w w') : RdA w' A l := by
  rcases h with rfl | ⟨b, off, rfl, h⟩
  · exact .inl rfl
  · exact .inr ⟨b, off, rfl, fun j hj => (h j hj).below hb⟩
theorem RdA.at_ {w : World} {A : Option Addr} {l : List ActV} (h : RdA w A l) {k : Nat} (hk : k < l.length) : ∃ b off, A = some ⟨b, off, none⟩ ∧ ActAt w b (off + k * 3) l[k] := by
  rcases h with rfl | ⟨b, off, rfl, h⟩
  · simp at hk
  · exact ⟨b, off, rfl, h k hk⟩

section
variable {H : Type} {enc : TypeId × Value → H} {P : Program} {w : World} {base : Nat} {spare : Nat → Bool} {held : Bool}
/-- A slice of bytes that came in, within the reach. -/
theorem open_bytes_wt {t e : TypeId} {fuel : Nat} {v : Value} {x : DataW H × List MemPlace} (ht : P.underlying t = some (.slice e)) (he : P.underlying e = some (.int .u8)) (hc : P.cellsOf e = 1) (hby : P.bytesOf e = 1)
    (h : DataW.trod enc P w base spare held fuel t [v] = some x) (hw : Wt P t x.1) : ∃ A n c l, v = .slice A n c ∧ l.length = n ∧ n ≤ c ∧ c ≤ 9223372036854775807 ∧ Rd w A l ∧ n ≤ 140737488351232 := by
  obtain ⟨A, n, c, l, hv, hl, hnc, hcm, hr⟩ := open_bytes ht he hc h
  refine ⟨A, n, c, l, hv, hl, hnc, hcm, hr, ?_⟩
  rcases open_slice ht h with ⟨h0, _⟩ | ⟨a, len, cap, m, n', D, Pl, hcs, _, hlc, _, hm, hx, _⟩
  · rw [hv] at h0
    injection h0 with h0
    injection h0 with _ h1 _
    omega
  · rw [hv] at hcs
    injection hcs with hcs
    injection hcs with _ h1 _
    rw [hx] at hw
    have := wt_len ht hw
    rw [hby] at this
    simp at this
    omega

/-- A slice of acts that came in. -/
theorem open_acts {t e : TypeId} {f0 f1 f2 : Field} {fuel : Nat} {v : Value} {x : DataW H × List MemPlace} {ub : TypeId} (ht : P.underlying t = some (.slice e)) (he : P.underlying e = some (.struct #[f0, f1, f2]))
    (hone : oneCellFields P #[f0, f1, f2] = true) (hC : P.cellsOf e = 3) (h0 : P.underlying f0.type = some (.int .i64)) (h1 : P.underlying f1.type = some (.int .i64)) (h2 : P.underlying f2.type = some (.slice ub)) (hub : P.underlying ub = some (.int .u8)) (hcb : P.cellsOf ub = 1) (hbb : P.bytesOf ub = 1)
    (h : DataW.trod enc P w base spare held fuel t [v] = some x) (hw : Wt P t x.1) :
    ∃ A n c l, v = .slice A n c ∧ l.length = n ∧ n ≤ c ∧ c ≤ 9223372036854775807 ∧ RdA w A l ∧ ∀ a ∈ l, a.Ok := by
  rcases open_slice ht h with ⟨hv, _⟩ | ⟨a, len, cap, m, n, D, Pl, hcs, _, hlc, hcm, hm, hx, hi⟩
  · injection hv with hv
    exact ⟨none, 0, 0, [], hv, rfl, Nat.le_refl _, by omega, .inl rfl, fun a ha => by simp at ha⟩
  · injection hcs with hcs
    rw [hx] at hw
    rw [hC] at hi
    have hlm : len ≤ m := by rw [hm]; split <;> omega
    have step : ∀ i, i < len → ∃ av : ActV, av.Ok ∧ ∃ B c, w.cell? (a.add (i * 3)) = some (.int .i64 av.kind) ∧ w.cell? (a.add (i * 3 + 1)) = some (.int .i64 av.n) ∧ w.cell? (a.add (i * 3 + 2)) = some (.slice B av.p.length c) ∧ Rd w B av.p ∧ av.p.length ≤ c := by
      intro i hil
      obtain ⟨cs', hc', ht'⟩ := hi i (by omega)
      have hwi : Wt P e (D i) := wt_elem ht hw (List.mem_map.2 ⟨i, List.mem_range.2 hil, rfl⟩)
      obtain ⟨_, hlen, hcell⟩ := World.cells?_some hc'
      obtain ⟨y0, y1, y2, n', hxe, _, t0, t1, t2⟩ := trod_struct3 he ht'
      obtain ⟨o0, k0⟩ := hone_of hone 0 f0 rfl
      obtain ⟨o1, k1⟩ := hone_of hone 1 f1 rfl
      obtain ⟨o2, k2⟩ := hone_of hone 2 f2 rfl
      match cs', hlen with
      | [v0, v1, v2], _ =>
        simp only [Prod.mk.injEq] at hxe
        have w2 : Wt P f2.type y2.1 := by
          rw [hxe.1] at hwi
          exact wt_field he hwi (j := 2) rfl rfl
        obtain ⟨z0, e0, _, b0⟩ := DataW.trod_int h0 (by simpa [o0, k0] using t0)
        obtain ⟨z1, e1, _, b1⟩ := DataW.trod_int h1 (by simpa [o1, k1] using t1)
        obtain ⟨B, nn, c, l, rfl, hl, hnc, _, hr, hre⟩ := open_bytes_wt h2 hub hcb hbb (v := v2) (by simpa [o2, k2] using t2) w2
        injection e0 with e0
        injection e1 with e1
        subst e0 e1 hl
        have c0 := hcell 0 (by omega)
        have c1 := hcell 1 (by omega)
        have c2 := hcell 2 (by omega)
        rw [Go.Deep.add_add] at c0 c1 c2
        have bb0 := bounds_i64 b0
        have bb1 := bounds_i64 b1
        exact ⟨⟨z0, z1, l⟩, ⟨bb0.1, bb0.2, bb1.1, bb1.2, hre⟩, B, c, c0, c1, c2, hr, hnc⟩
    obtain ⟨l, hl, hq⟩ := list_of len step
    refine ⟨some a, len, cap, l, hcs, hl, hlc, by unfold maxLen at hcm; exact hcm, ?_, fun x hx => ?_⟩
    · rcases Nat.eq_zero_or_pos len with hz | hz
      · exact .inl (List.eq_nil_of_length_eq_zero (by omega))
      · obtain ⟨_, _, _, hc0, _⟩ := hq 0 (by omega)
        have hsp := spot_of_cell hc0
        obtain ⟨b, off, spot⟩ := a
        have hspot : spot = none := by simpa [Addr.add] using hsp
        subst hspot
        refine .inr ⟨b, off, rfl, fun j hj => ?_⟩
        obtain ⟨_, B, c, h3, h4, h5, h6, h7⟩ := hq j hj
        rw [Addr.add_lit] at h3 h4 h5
        exact ⟨B, c, h3, by rw [Nat.add_assoc]; exact h4, by rw [Nat.add_assoc]; exact h5, h6, h7⟩
    · obtain ⟨i, hi', rfl⟩ := List.getElem_of_mem hx
      exact (hq i hi').1
end
end Go.Proofs.Ytpfikhamokjdjaa
