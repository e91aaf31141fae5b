/- The walks of the term package's is, Check, Size, gone on with (written by termisgen.py). -/
import Derived.Test.YtbpnlpjbjmojfaaGreatTermI
import Derived.RegionTactic
import Derived.BigRegion
namespace Go.Proofs.YtbpnlpjbjmojfaaGreat
open Go.RowKit
set_option linter.unusedVariables false

/-- A term's box, and the box beside it. -/
structure IS (W : World) (box wb : Array Value) (V : World) : Prop where
  t : Blk V W.heap.size 26 box
  w : Blk V (W.heap.size + 1) 26 wb
  bel : Below W.heap.size W V
theorem IS.drew {W V : World} {box wb : Array Value} (h : IS W box wb V) : IS W box wb V.drew := ⟨h.t.keep (Below.refl _ _).drew, h.w.keep (Below.refl _ _).drew, h.bel.drew⟩
theorem IS.set {W V : World} {box wb : Array Value} (h : IS W box wb V) (i : Nat) (v : Value) : IS W box (wb.setIfInBounds i v) (V.setCell ⟨W.heap.size + 1, i, none⟩ v) :=
  ⟨h.t.far (p := ⟨W.heap.size + 1, i, none⟩) (by show W.heap.size ≠ W.heap.size + 1; omega) v, h.w.set_ i v, h.bel.setCell (p := ⟨W.heap.size + 1, i, none⟩) (by show W.heap.size ≤ W.heap.size + 1; omega) v⟩
theorem IS.new (W : World) (box wb : Array Value) : IS W box wb ((W.alloc (.cells box 26)).alloc (.cells wb 26)).drew := by
  refine IS.drew ⟨(Blk.new W _ _).alloc _, ?_, below_step (below_alloc _ _) (below_alloc _ _)⟩
  have := Blk.new (W.alloc (.cells box 26)) 26 wb
  simpa using this
def IsEnds (W : World) (k n : Int) (s : List UInt8) (len : Nat) (b : Bool) (e : Ending) (w' : World) : Prop := e = .returned (.bool (headB k n s len && b)) ∧ Below W.heap.size W w'


end Go.Proofs.YtbpnlpjbjmojfaaGreat
