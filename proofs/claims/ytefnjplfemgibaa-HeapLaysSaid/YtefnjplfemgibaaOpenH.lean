/- How a heap (three slices) that came in is read. -/
import Derived.Test.YtefnjplfemgibaaOpenL
import Derived.Test.YtefnjplfemgibaaHpN
namespace Go.Proofs.Ytefnjplfemgibaa
open Go.ChangeShapes Go.WideShapes Go.ChangeAt Go.RowKit Go.Joins Go.Deep
set_option linter.unusedVariables false

theorem RdK.rdc {w : World} {A : Option Addr} {l : List Nat} (h : RdK .u64 w A (l.map (fun (x : Nat) => (x : Int)))) : RdC w A (l.map nv) := by
  rcases h with h0 | ⟨b, off, rfl, h⟩
  · exact .inl (by rw [List.map_eq_nil_iff] at h0 ⊢; exact h0)
  · refine .inr ⟨b, off, rfl, fun j v hj => ?_⟩
    rw [List.getElem?_map, Option.map_eq_some_iff] at hj
    obtain ⟨x, hx, rfl⟩ := hj
    obtain ⟨hl, rfl⟩ := List.getElem?_eq_some_iff.1 hx
    rw [h j (by simpa using hl)]
    simp [nv]
theorem RdT.rdc {w : World} {A : Option Addr} {l : List (List UInt8)} (h : RdT w A l) : RdC w A (l.map hv) := by
  rcases h with rfl | ⟨b, off, rfl, h⟩
  · exact .inl rfl
  · refine .inr ⟨b, off, rfl, fun j v hj => ?_⟩
    rw [List.getElem?_map, Option.map_eq_some_iff] at hj
    obtain ⟨x, hx, rfl⟩ := hj
    obtain ⟨hl, rfl⟩ := List.getElem?_eq_some_iff.1 hx
    rw [h j hl]
    simp [hv]
section
variable {H : Type} {enc : TypeId × Value → H} {P : Program} {w : World} {base : Nat} {spare : Nat → Bool} {held : Bool}
theorem open_heap {r : Reach} {b0 : Nat} {t tu ts : TypeId} {f0 f1 f2 : Field} {v : Value} {d : DataW H} {p : List MemPlace} (ht : P.underlying t = some (.struct #[f0, f1, f2])) (hone : oneCellFields P #[f0, f1, f2] = true) (hC : P.cellsOf t = 3)
    (h0 : P.underlying f0.type = some (.slice tu)) (h1 : P.underlying f1.type = some (.slice ts)) (h2 : P.underlying f2.type = some (.slice tu)) (hu : P.underlying tu = some (.int .u64)) (hus : P.underlying ts = some .string) (hcu : P.cellsOf tu = 1) (hcs : P.cellsOf ts = 1)
    (hv : Value.okWide P w r b0 t v) (h : DataW.Trod enc P w base spare held t v d p) (hw : Wt P t d) :
    ∃ (Aw : Option Addr) (lw cw : Nat) (Aa : Option Addr) (la ca : Nat) (Ar : Option Addr) (lr cr : Nat) (ws : List Nat) (nm : List (List UInt8)) (rs : List Nat), v = .agg #[.slice Aw lw cw, .slice Aa la ca, .slice Ar lr cr] ∧ HRd w Aw lw cw Aa la ca Ar lr cr ws nm rs ∧ ∀ s ∈ nm, s.length ≤ 140737488351232 := by
  obtain ⟨cs, rfl, hsz⟩ := okWide_struct ht hv
  obtain ⟨fuel, hf⟩ := h
  obtain ⟨xs, n, hn, hx, hl, hlen, hfs⟩ := DataW.trod_struct ht hf
  obtain ⟨o0, k0⟩ := hone_of hone 0 f0 rfl
  obtain ⟨o1, k1⟩ := hone_of hone 1 f1 rfl
  obtain ⟨o2, k2⟩ := hone_of hone 2 f2 rfl
  rw [hC] at hl
  have hcl : (Value.agg cs).cells.toList = cs.toList := rfl
  rw [hcl] at hl hfs
  match e : cs.toList, hl, xs, hlen with
  | [v0, v1, v2], _, [y0, y1, y2], _ =>
    rw [e] at hfs
    have t0 := hfs 0 f0 rfl
    have t1 := hfs 1 f1 rfl
    have t2 := hfs 2 f2 rfl
    have hd : d = .agg [y0.1, y1.1, y2.1] := by
      have := congrArg Prod.fst hx
      simpa using this
    rw [hd] at hw
    have w1 : Wt P f1.type y1.1 := wt_field ht hw (j := 1) rfl rfl
    obtain ⟨Aw, lw, cw, ws, rfl, a1, a2, a3, a4, a5⟩ := open_nats (v := v0) h0 hu hcu (by simpa [o0, k0] using t0)
    obtain ⟨Aa, la, ca, nm, rfl, b1, b2, b3, b4, b5⟩ := open_rdt (v := v1) h1 hus hcs (by simpa [o1, k1] using t1) w1
    obtain ⟨Ar, lr, cr, rs, rfl, c1, c2, c3, c4, c5⟩ := open_nats (v := v2) h2 hu hcu (by simpa [o2, k2] using t2)
    refine ⟨Aw, lw, cw, Aa, la, ca, Ar, lr, cr, ws, nm, rs, ?_, ?_, b5⟩
    · have : cs = #[Value.slice Aw lw cw, .slice Aa la ca, .slice Ar lr cr] := by rw [← Array.toList_inj]; exact e
      rw [this]
    · exact { w := a4.rdc, a := b4.rdc, r := c4.rdc, hlw := a1, hla := b1, hlr := c1, hcw := ⟨a2, a3⟩, hca := ⟨b2, b3⟩, hcr := ⟨c2, c3⟩, w64 := a5, r64 := c5 }
end
end Go.Proofs.Ytefnjplfemgibaa
