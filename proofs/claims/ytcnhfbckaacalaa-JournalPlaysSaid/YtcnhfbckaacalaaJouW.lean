/- The walks of Number and write of layer 6. -/
import Derived.Test.YtcnhfbckaacalaaJouA
import Derived.Deep.RegionHeld3
namespace Go.Proofs.Ytcnhfbckaacalaa
open Go.RowKit
set_option linter.unusedVariables false

/-- A block's number. -/
def jnum (epoch life i : Nat) : Nat := epoch * 1099511627776 + life * 1048576 + i
set_option maxHeartbeats 400000 in
theorem jnumber_any (e l i : Nat) (w : World) (he : e ≤ 16777215) (hl : l ≤ 1048575) (hi : i ≤ 16384) :
    Calls Try.prog 26 #[.int .i64 (e : Int), .int .i64 (l : Int), .int .i64 (i : Int)] w fun r w' => r = .returned (.int .u64 (jnum e l i : Int)) ∧ w = w' := by
  have HN := Lib.hid (show ((jnum e l i : Nat) : Int) = (e : Int) * 1099511627776 + (l : Int) * 1048576 + (i : Int) by unfold jnum; omega)
  have q1 : IntKind.u64.wrap (e : Int) = (e : Int) := by show (e : Int) % 18446744073709551616 = _; omega
  have q2 : IntKind.u64.wrap (l : Int) = (l : Int) := by show (l : Int) % 18446744073709551616 = _; omega
  have q3 : IntKind.u64.wrap (i : Int) = (i : Int) := by show (i : Int) % 18446744073709551616 = _; omega
  go_enter Try.func26, Try.ntmps26
  go_wp2
  go_ret
  rw [HN.out]
  exact ⟨rfl, rfl⟩

/-- The block in which the first byte lies that is not safe; what of the stream lies in it; it written. -/
def JV.blk (J : JV) (D : DS) : Nat := J.safe / (D.size - 15)
def JV.to_ (J : JV) (D : DS) : Nat := min J.stream.length ((J.blk D + 1) * (D.size - 15))
def JV.load (J : JV) (D : DS) : List UInt8 := (J.stream.drop (J.blk D * (D.size - 15))).take (J.to_ D - J.blk D * (D.size - 15))
def JV.image (J : JV) (D : DS) : List UInt8 := sealed D.size 74 (jnum J.epoch J.life (J.blk D)) (J.load D)
def JV.wr (J : JV) (D : DS) : Nat × JV × DS :=
  let r := D.write ((J.from_ + J.blk D : Nat) : Int) (J.image D)
  if r.1 = 0 then (0, { J with safe := J.to_ D }, r.2) else (r.1, { J with broken := true }, r.2)
def JEnds (w0 : Bas) (pj : Nat) (pd : Nat) (p : Pl) (w : World) (e : Nat) (J' : JV) (D' : DS) (r : Ending) (w' : World) : Prop :=
  r = .returned (.int .i64 (e : Int)) ∧ ∃ v' p', JD w0 pj v' J' pd p' D' w'
section
variable {w0 : Bas} {w w' : World} {pj pd : Nat} {v : Value} {J J' : JV} {p p' : Pl} {D D' : DS}
theorem JD.disk_act (h : JD w0 pj v J pd p D w) (a : Acts w pd p D' w' p') (ok : D'.Ok) (h1 : D'.nb = D.nb) (h2 : D'.size = D.size) : JD w0 pj v J pd p' D' w' := by
  have hj := h.jok
  have hbs := h.belx.size
  refine ⟨a.disk, a.fr.blk h.obj h.sep, h.str.far a.fr (fun k hk => (h.sepV k hk).1), h.belx.join a.fr h.loD, h.lo, h.loV, fun k hk => ?_, fun hk => ?_, fun k hk => ⟨fun hf => ?_, (h.sepV k hk).2⟩, ok, ⟨by rw [h1]; exact hj.area, hj.l1, hj.l2, hj.ep, hj.lf1, hj.lf2, hj.safe, by rw [h2]; exact hj.room, hj.recs⟩⟩
  · rcases a.grown k hk with h9 | h9
    · exact h.loD k h9
    · exact .inl (by omega)
  · rcases a.grown pj hk with h9 | h9
    · exact h.sep h9
    · have := h.obj.lt; omega
  · rcases a.grown k hf with h9 | h9
    · exact (h.sepV k hk).1 h9
    · have := h.str.lt k hk; omega
theorem JD.set_ (h : JD w0 pj v J pd p D w) (i : Nat) (u : Value) (hs : J'.stream = J.stream) (hc : (jcells pd J v).setIfInBounds i u = jcells pd J' v) (ok : JOk J' D) : JD w0 pj v J' pd p D (w.setCell ⟨pj, i, none⟩ u) := by
  have hf := Fr.setCell (fun k => k = pj) w (p := ⟨pj, i, none⟩) (fun _ => rfl) u
  have hlo := h.lo
  have hobj := h.obj.set_ i u
  rw [hc] at hobj
  have hlog := h.disk.log
  refine ⟨?_, hobj, by rw [hs]; exact h.str.far hf (fun k hk => (h.sepV k hk).2), h.belx.join hf (fun k e => e ▸ hlo), h.lo, h.loV, h.loD, h.sep, h.sepV, h.ok, ok⟩
  have hd := h.disk
  have hsep := h.sep
  have hne : pd ≠ pj := fun e => hsep (.inl e.symm)
  have hne2 : p.gb ≠ pj := fun e => hsep (.inr (.inl e.symm))
  have hne3 : p.ch ≠ pj := fun e => hsep (.inr (.inr (.inr e.symm)))
  have hne4 : p.lv.ownBlock ≠ some pj := fun e => hsep (.inr (.inr (.inl e)))
  refine ⟨hf.blk hd.obj hne, hf.blk hd.row hne2, hd.cap, hd.capm, ?_, ?_⟩
  · refine World.ownsRow.kept (row := some pj) hd.log (grown_setCell (grown_refl _ (some pj)) (p := ⟨pj, i, none⟩) (.inl rfl) _) ?_
    cases hq : p.lv.ownBlock with
    | none => exact .inl rfl
    | some g9 => exact .inr (fun e9 => by injection e9 with e9; exact hne4 (by rw [hq, e9]))
  · have hlt : p.ch < w.heap.size := (Array.getElem?_eq_some_iff.1 hd.chan).1
    exact (hf.block _ hlt hne3).trans hd.chan
end
end Go.Proofs.Ytcnhfbckaacalaa
