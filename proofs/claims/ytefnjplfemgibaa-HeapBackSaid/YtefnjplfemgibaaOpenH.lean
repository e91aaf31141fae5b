/- How slices of numbers that came in are read. No program is named here. How slices of numbers and of texts that came in are read. No program is named here. How a heap (three slices) that came in is read. -/
import Derived.Test.YtefnjplfemgibaaOpenS
import Derived.Test.YtefnjplfemgibaaRdK
import Derived.Test.YtefnjplfemgibaaLays
import Derived.SliceStrings
import Derived.Test.YtefnjplfemgibaaHpL
namespace Go.Proofs.Ytefnjplfemgibaa
section
open Go.ChangeShapes Go.WideShapes Go.ChangeAt Go.RowKit Go.Joins Go.Deep
set_option linter.unusedVariables false

section
variable {H : Type} {enc : TypeId × Value → H} {P : Program} {w : World} {base : Nat} {spare : Nat → Bool} {held : Bool}
/-- A slice of integers that came in. -/
theorem open_rdk {t e : TypeId} {K : IntKind} {fuel : Nat} {v : Value} {x : DataW H × List MemPlace} (ht : P.underlying t = some (.slice e)) (he : P.underlying e = some (.int K)) (hc : P.cellsOf e = 1)
    (h : DataW.trod enc P w base spare held fuel t [v] = some x) : ∃ A n c l, v = .slice A n c ∧ l.length = n ∧ n ≤ c ∧ c ≤ 9223372036854775807 ∧ RdK K w A l ∧ ∀ z ∈ l, (Lit.int K z).wf = true := by
  rcases open_ints ht he hc h with ⟨hcs, _⟩ | ⟨a, len, cap, zs, hcs, _, hl, hm, hz, _, hcell, hwz⟩
  · injection hcs with hcs
    exact ⟨none, 0, 0, [], hcs, rfl, Nat.le_refl _, by omega, .inl rfl, fun z hz => by simp at hz⟩
  · injection hcs with hcs
    have hlen : len ≤ zs.length := by rw [hz]; split <;> omega
    refine ⟨some a, len, cap, zs.take len, hcs, by simp; omega, hl, by unfold maxLen at hm; exact hm, ?_, fun z hz => hwz z (List.mem_of_mem_take hz)⟩
    rcases Nat.eq_zero_or_pos len with h0 | h0
    · exact .inl (by subst h0; simp)
    · have hsp := spot_of_cell (hcell 0 (by omega))
      obtain ⟨b, off, spot⟩ := a
      have hspot : spot = none := by simpa [Addr.add] using hsp
      subst hspot
      refine .inr ⟨b, off, rfl, fun j hj => ?_⟩
      have hj2 : j < zs.length := by simp at hj; omega
      have h1 := hcell j hj2
      rw [Addr.add_lit] at h1
      rw [h1, List.getD_eq_getElem?_getD, List.getElem?_eq_getElem hj2]
      simp
theorem open_nats {t e : TypeId} {fuel : Nat} {v : Value} {x : DataW H × List MemPlace} (ht : P.underlying t = some (.slice e)) (he : P.underlying e = some (.int .u64)) (hc : P.cellsOf e = 1)
    (h : DataW.trod enc P w base spare held fuel t [v] = some x) : ∃ A n c, ∃ l : List Nat, v = .slice A n c ∧ l.length = n ∧ n ≤ c ∧ c ≤ 9223372036854775807 ∧ RdK .u64 w A (l.map (fun (x : Nat) => (x : Int))) ∧ ∀ z ∈ l, z < 18446744073709551616 := by
  obtain ⟨A, n, c, l, h1, h2, h3, h4, h5, h6⟩ := open_rdk ht he hc h
  have hb : ∀ z ∈ l, 0 ≤ z ∧ z ≤ 18446744073709551615 := fun z hz => bounds_u64 (h6 z hz)
  have e : (l.map Int.toNat).map (fun (x : Nat) => (x : Int)) = l := by
    rw [List.map_map]
    conv => rhs; rw [← List.map_id l]
    exact List.map_congr_left fun z hz => by have := hb z hz; simp; omega
  refine ⟨A, n, c, l.map Int.toNat, h1, by rw [List.length_map]; exact h2, h3, h4, by rw [e]; exact h5, fun z hz => ?_⟩
  obtain ⟨y, hy, rfl⟩ := List.mem_map.1 hz
  have := hb y hy
  omega
theorem open_i64s {t e : TypeId} {fuel : Nat} {v : Value} {x : DataW H × List MemPlace} (ht : P.underlying t = some (.slice e)) (he : P.underlying e = some (.int .i64)) (hc : P.cellsOf e = 1)
    (h : DataW.trod enc P w base spare held fuel t [v] = some x) : ∃ A n c l, v = .slice A n c ∧ l.length = n ∧ n ≤ c ∧ c ≤ 9223372036854775807 ∧ RdK .i64 w A l ∧ ∀ z ∈ l, -9223372036854775808 ≤ z ∧ z ≤ 9223372036854775807 := by
  obtain ⟨A, n, c, l, h1, h2, h3, h4, h5, h6⟩ := open_rdk ht he hc h
  exact ⟨A, n, c, l, h1, h2, h3, h4, h5, fun z hz => bounds_i64 (h6 z hz)⟩
end
end
section
open Go.ChangeShapes Go.WideShapes Go.ChangeAt Go.RowKit Go.Joins Go.Deep
set_option linter.unusedVariables false

section
variable {H : Type} {enc : TypeId × Value → H} {P : Program} {w : World} {base : Nat} {spare : Nat → Bool} {held : Bool}
/-- A slice of texts that came in, within the reach. -/
theorem open_rdt {t e : TypeId} {fuel : Nat} {v : Value} {x : DataW H × List MemPlace} (ht : P.underlying t = some (.slice e)) (he : P.underlying e = some .string) (hc : P.cellsOf e = 1)
    (h : DataW.trod enc P w base spare held fuel t [v] = some x) (hw : Wt P t x.1) : ∃ A n c l, v = .slice A n c ∧ l.length = n ∧ n ≤ c ∧ c ≤ 9223372036854775807 ∧ RdT w A l ∧ ∀ s ∈ l, s.length ≤ 140737488351232 := by
  rcases open_strings ht he hc h with ⟨hcs, _⟩ | ⟨a, len, cap, ss, hcs, _, hl, hm, hz, hx, hcell, hwz⟩
  · injection hcs with hcs
    exact ⟨none, 0, 0, [], hcs, rfl, Nat.le_refl _, by omega, .inl rfl, fun z hz => by simp at hz⟩
  · injection hcs with hcs
    have hlen : len ≤ ss.length := by rw [hz]; split <;> omega
    refine ⟨some a, len, cap, (ss.take len).map (fun s => s.data.toList), hcs, by simp; omega, hl, by unfold maxLen at hm; exact hm, ?_, fun z hz => ?_⟩
    · rcases Nat.eq_zero_or_pos len with h0 | h0
      · exact .inl (by subst h0; simp)
      · have hsp := spot_of_cell (hcell 0 (by omega))
        obtain ⟨b, off, spot⟩ := a
        have hspot : spot = none := by simpa [Addr.add] using hsp
        subst hspot
        refine .inr ⟨b, off, rfl, fun j hj => ?_⟩
        have hj2 : j < ss.length := by simp at hj; omega
        have h1 := hcell j hj2
        rw [Addr.add_lit] at h1
        rw [h1, List.getD_eq_getElem?_getD, List.getElem?_eq_getElem hj2]
        simp
    · obtain ⟨s, hs, rfl⟩ := List.mem_map.1 hz
      rw [hx] at hw
      have hd : (DataW.lit (.string s.data.toList) : DataW H) ∈ strs (ss.take len) := List.mem_map.2 ⟨s, hs, rfl⟩
      exact wt_elem ht hw hd s.data.toList.length (by simp [DataW.weights])
end
end
section
open Go.ChangeShapes Go.WideShapes Go.ChangeAt Go.RowKit Go.Joins Go.Deep
set_option linter.unusedVariables false

theorem RdK.rdc {w : World} {A : Option Addr} {l : List Nat} (h : RdK .u64 w A (l.map (fun (x : Nat) => (x : Int)))) : RdC w A (l.map nv) := by
  rcases h with h0 | ⟨b, off, rfl, h⟩
  · exact .inl (by rw [List.map_eq_nil_iff] at h0 ⊢; exact h0)
  · refine .inr ⟨b, off, rfl, fun j v hj => ?_⟩
    rw [List.getElem?_map, Option.map_eq_some_iff] at hj
    obtain ⟨x, hx, rfl⟩ := hj
    obtain ⟨hl, rfl⟩ := List.getElem?_eq_some_iff.1 hx
    rw [h j (by simpa using hl)]
    simp [nv]
theorem RdT.rdc {w : World} {A : Option Addr} {l : List (List UInt8)} (h : RdT w A l) : RdC w A (l.map hv) := by
  rcases h with rfl | ⟨b, off, rfl, h⟩
  · exact .inl rfl
  · refine .inr ⟨b, off, rfl, fun j v hj => ?_⟩
    rw [List.getElem?_map, Option.map_eq_some_iff] at hj
    obtain ⟨x, hx, rfl⟩ := hj
    obtain ⟨hl, rfl⟩ := List.getElem?_eq_some_iff.1 hx
    rw [h j hl]
    simp [hv]
section
variable {H : Type} {enc : TypeId × Value → H} {P : Program} {w : World} {base : Nat} {spare : Nat → Bool} {held : Bool}
theorem open_heap {r : Reach} {b0 : Nat} {t tu ts : TypeId} {f0 f1 f2 : Field} {v : Value} {d : DataW H} {p : List MemPlace} (ht : P.underlying t = some (.struct #[f0, f1, f2])) (hone : oneCellFields P #[f0, f1, f2] = true) (hC : P.cellsOf t = 3)
    (h0 : P.underlying f0.type = some (.slice tu)) (h1 : P.underlying f1.type = some (.slice ts)) (h2 : P.underlying f2.type = some (.slice tu)) (hu : P.underlying tu = some (.int .u64)) (hus : P.underlying ts = some .string) (hcu : P.cellsOf tu = 1) (hcs : P.cellsOf ts = 1)
    (hv : Value.okWide P w r b0 t v) (h : DataW.Trod enc P w base spare held t v d p) (hw : Wt P t d) :
    ∃ (Aw : Option Addr) (lw cw : Nat) (Aa : Option Addr) (la ca : Nat) (Ar : Option Addr) (lr cr : Nat) (ws : List Nat) (nm : List (List UInt8)) (rs : List Nat), v = .agg #[.slice Aw lw cw, .slice Aa la ca, .slice Ar lr cr] ∧ HRd w Aw lw cw Aa la ca Ar lr cr ws nm rs ∧ ∀ s ∈ nm, s.length ≤ 140737488351232 := by
  obtain ⟨cs, rfl, hsz⟩ := okWide_struct ht hv
  obtain ⟨fuel, hf⟩ := h
  obtain ⟨xs, n, hn, hx, hl, hlen, hfs⟩ := DataW.trod_struct ht hf
  obtain ⟨o0, k0⟩ := hone_of hone 0 f0 rfl
  obtain ⟨o1, k1⟩ := hone_of hone 1 f1 rfl
  obtain ⟨o2, k2⟩ := hone_of hone 2 f2 rfl
  rw [hC] at hl
  have hcl : (Value.agg cs).cells.toList = cs.toList := rfl
  rw [hcl] at hl hfs
  match e : cs.toList, hl, xs, hlen with
  | [v0, v1, v2], _, [y0, y1, y2], _ =>
    rw [e] at hfs
    have t0 := hfs 0 f0 rfl
    have t1 := hfs 1 f1 rfl
    have t2 := hfs 2 f2 rfl
    have hd : d = .agg [y0.1, y1.1, y2.1] := by
      have := congrArg Prod.fst hx
      simpa using this
    rw [hd] at hw
    have w1 : Wt P f1.type y1.1 := wt_field ht hw (j := 1) rfl rfl
    obtain ⟨Aw, lw, cw, ws, rfl, a1, a2, a3, a4, a5⟩ := open_nats (v := v0) h0 hu hcu (by simpa [o0, k0] using t0)
    obtain ⟨Aa, la, ca, nm, rfl, b1, b2, b3, b4, b5⟩ := open_rdt (v := v1) h1 hus hcs (by simpa [o1, k1] using t1) w1
    obtain ⟨Ar, lr, cr, rs, rfl, c1, c2, c3, c4, c5⟩ := open_nats (v := v2) h2 hu hcu (by simpa [o2, k2] using t2)
    refine ⟨Aw, lw, cw, Aa, la, ca, Ar, lr, cr, ws, nm, rs, ?_, ?_, b5⟩
    · have : cs = #[Value.slice Aw lw cw, .slice Aa la ca, .slice Ar lr cr] := by rw [← Array.toList_inj]; exact e
      rw [this]
    · exact { w := a4.rdc, a := b4.rdc, r := c4.rdc, hlw := a1, hla := b1, hlr := c1, hcw := ⟨a2, a3⟩, hca := ⟨b2, b3⟩, hcr := ⟨c2, c3⟩, w64 := a5, r64 := c5 }
end
end
end Go.Proofs.Ytefnjplfemgibaa
