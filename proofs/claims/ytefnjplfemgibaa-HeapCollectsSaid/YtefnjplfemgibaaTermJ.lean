/- The walks of the term package's is, Check, Size, gone on with (written by termisgen.py). -/
import Derived.Test.YtefnjplfemgibaaTermI
import Derived.RegionTactic
import Derived.BigRegion
namespace Go.Proofs.Ytefnjplfemgibaa
open Go.RowKit
set_option linter.unusedVariables false

/-- A term's box, and the box beside it. -/
structure IS (W : World) (box wb : Array Value) (V : World) : Prop where
  t : Blk V W.heap.size 37 box
  w : Blk V (W.heap.size + 1) 37 wb
  bel : Below W.heap.size W V
theorem IS.drew {W V : World} {box wb : Array Value} (h : IS W box wb V) : IS W box wb V.drew := ⟨h.t.keep (Below.refl _ _).drew, h.w.keep (Below.refl _ _).drew, h.bel.drew⟩
theorem IS.set {W V : World} {box wb : Array Value} (h : IS W box wb V) (i : Nat) (v : Value) : IS W box (wb.setIfInBounds i v) (V.setCell ⟨W.heap.size + 1, i, none⟩ v) :=
  ⟨h.t.far (p := ⟨W.heap.size + 1, i, none⟩) (by show W.heap.size ≠ W.heap.size + 1; omega) v, h.w.set_ i v, h.bel.setCell (p := ⟨W.heap.size + 1, i, none⟩) (by show W.heap.size ≤ W.heap.size + 1; omega) v⟩
theorem IS.new (W : World) (box wb : Array Value) : IS W box wb ((W.alloc (.cells box 37)).alloc (.cells wb 37)).drew := by
  refine IS.drew ⟨(Blk.new W _ _).alloc _, ?_, below_step (below_alloc _ _) (below_alloc _ _)⟩
  have := Blk.new (W.alloc (.cells box 37)) 37 wb
  simpa using this
def IsEnds (W : World) (k n : Int) (s : List UInt8) (len : Nat) (b : Bool) (e : Ending) (w' : World) : Prop := e = .returned (.bool (headB k n s len && b)) ∧ Below W.heap.size W w'


set_option maxRecDepth 100000 in
set_option maxHeartbeats 4000000 in
theorem is_k1 (n : Int) (s : List UInt8) (A : Option Addr) (len c : Nat) (b : Bool) (W : World) (hlc : len ≤ 9223372036854775807) (hsl : s.length ≤ 9223372036854775807)
    (hct : ∀ V, Below W.heap.size W V → Calls Try.prog 58 #[.slice A len c, .func (.func 89) #[] #[]] V fun e w' => e = .returned (.bool (!b)) ∧ Below V.heap.size V w') :
    Calls Try.prog 60 #[.agg #[.int .i64 1, .int .i64 n, .string ⟨s.toArray⟩, .slice A len c]] W (IsEnds W 1 n s len b) := by
  have HCT := Lib.hid hct
  clear hct
  have hway : (¬ (-576460752303423488 : Int) ≤ n) ∨ ((-576460752303423488 : Int) ≤ n ∧ ¬ n ≤ 576460752303423487) ∨ ((-576460752303423488 : Int) ≤ n ∧ n ≤ 576460752303423487 ∧ ¬ len = 0) ∨ ((-576460752303423488 : Int) ≤ n ∧ n ≤ 576460752303423487 ∧ len = 0 ∧ ¬ s = []) ∨ ((-576460752303423488 : Int) ≤ n ∧ n ≤ 576460752303423487 ∧ len = 0 ∧ s = []) := by
    by_cases g0 : (-576460752303423488 : Int) ≤ n
    rotate_left
    · exact .inl (g0)
    by_cases g1 : n ≤ 576460752303423487
    rotate_left
    · exact .inr (.inl (⟨g0, g1⟩))
    by_cases g2 : len = 0
    rotate_left
    · exact .inr (.inr (.inl (⟨g0, g1, g2⟩)))
    by_cases g3 : s = []
    rotate_left
    · exact .inr (.inr (.inr (.inl (⟨g0, g1, g2, g3⟩))))
    exact .inr (.inr (.inr (.inr (⟨g0, g1, g2, g3⟩))))
  rcases hway with h0 | ⟨h0, h1⟩ | ⟨h0, h1, h2⟩ | ⟨h0, h1, h2, h3⟩ | ⟨h0, h1, h2, h3⟩
  · skip
    have HF := Lib.hid (show headB 1 n s len = false by simp [headB, h0])
    have d0 : decide ((-576460752303423488 : Int) ≤ n) = false := by simp; omega
    clear h0
    go_enter Try.func60, Try.ntmps60
    go_upto_region 2 with (fail)
    go_region
    go_upto_region 5 with (fail)
    refine wp_world (IS W #[.int .i64 1, .int .i64 n, .string ⟨s.toArray⟩, .slice A len c] #[.int .i64 1, .int .i64 0, .string ⟨#[]⟩, .slice A len c]) (IS.new W _ _) ?_
    intro V1 hV1
    have t0 := hV1.t.cell 0
    have t1 := hV1.t.cell 1
    have t2 := hV1.t.cell 2
    have t3 := hV1.t.cell 3
    have w0 := hV1.w.cell 0
    have f0 := hV1.w.frozen 0
    have w1 := hV1.w.cell 1
    have f1 := hV1.w.frozen 1
    have w2 := hV1.w.cell 2
    have f2 := hV1.w.frozen 2
    go_upto_region 6 with (fail)
    go_region
    go_upto_region 20 with (fail)
    have hV2 := (hV1.set 1 (.int .i64 n)).drew
    refine wp_world (IS W #[.int .i64 1, .int .i64 n, .string ⟨s.toArray⟩, .slice A len c] #[.int .i64 1, .int .i64 n, .string ⟨#[]⟩, .slice A len c]) hV2 ?_
    clear hV2 hV1 t0 t1 t2 t3 w0 w1 w2 f0 f1 f2
    intro V2 hV2
    have t1 := hV2.t.cell 1
    have t2 := hV2.t.cell 2
    have t3 := hV2.t.cell 3
    have w1 := hV2.w.cell 1
    have w2 := hV2.w.cell 2
    go_wp2_with (fail)
    go_ret
    exact ⟨by rw [HF.out]; rfl, hV2.bel⟩
  · skip
    have HF := Lib.hid (show headB 1 n s len = false by simp [headB, h0, h1])
    have d0 : decide ((-576460752303423488 : Int) ≤ n) = true := by simp; omega
    have d1 : decide (n ≤ 576460752303423487) = false := by simp; omega
    clear h0 h1
    go_enter Try.func60, Try.ntmps60
    go_upto_region 2 with (fail)
    go_region
    go_upto_region 5 with (fail)
    refine wp_world (IS W #[.int .i64 1, .int .i64 n, .string ⟨s.toArray⟩, .slice A len c] #[.int .i64 1, .int .i64 0, .string ⟨#[]⟩, .slice A len c]) (IS.new W _ _) ?_
    intro V1 hV1
    have t0 := hV1.t.cell 0
    have t1 := hV1.t.cell 1
    have t2 := hV1.t.cell 2
    have t3 := hV1.t.cell 3
    have w0 := hV1.w.cell 0
    have f0 := hV1.w.frozen 0
    have w1 := hV1.w.cell 1
    have f1 := hV1.w.frozen 1
    have w2 := hV1.w.cell 2
    have f2 := hV1.w.frozen 2
    go_upto_region 6 with (fail)
    go_region
    go_upto_region 20 with (fail)
    have hV2 := (hV1.set 1 (.int .i64 n)).drew
    refine wp_world (IS W #[.int .i64 1, .int .i64 n, .string ⟨s.toArray⟩, .slice A len c] #[.int .i64 1, .int .i64 n, .string ⟨#[]⟩, .slice A len c]) hV2 ?_
    clear hV2 hV1 t0 t1 t2 t3 w0 w1 w2 f0 f1 f2
    intro V2 hV2
    have t1 := hV2.t.cell 1
    have t2 := hV2.t.cell 2
    have t3 := hV2.t.cell 3
    have w1 := hV2.w.cell 1
    have w2 := hV2.w.cell 2
    go_wp2_with (fail)
    go_ret
    exact ⟨by rw [HF.out]; rfl, hV2.bel⟩
  · skip
    have HF := Lib.hid (show headB 1 n s len = false by simp [headB, h0, h1, h2])
    have d0 : decide ((-576460752303423488 : Int) ≤ n) = true := by simp; omega
    have d1 : decide (n ≤ 576460752303423487) = true := by simp; omega
    have d2 : ((len : Int) == 0) = false := by simp; omega
    clear h0 h1 h2
    go_enter Try.func60, Try.ntmps60
    go_upto_region 2 with (fail)
    go_region
    go_upto_region 5 with (fail)
    refine wp_world (IS W #[.int .i64 1, .int .i64 n, .string ⟨s.toArray⟩, .slice A len c] #[.int .i64 1, .int .i64 0, .string ⟨#[]⟩, .slice A len c]) (IS.new W _ _) ?_
    intro V1 hV1
    have t0 := hV1.t.cell 0
    have t1 := hV1.t.cell 1
    have t2 := hV1.t.cell 2
    have t3 := hV1.t.cell 3
    have w0 := hV1.w.cell 0
    have f0 := hV1.w.frozen 0
    have w1 := hV1.w.cell 1
    have f1 := hV1.w.frozen 1
    have w2 := hV1.w.cell 2
    have f2 := hV1.w.frozen 2
    go_upto_region 6 with (fail)
    go_region
    go_upto_region 20 with (fail)
    have hV2 := (hV1.set 1 (.int .i64 n)).drew
    refine wp_world (IS W #[.int .i64 1, .int .i64 n, .string ⟨s.toArray⟩, .slice A len c] #[.int .i64 1, .int .i64 n, .string ⟨#[]⟩, .slice A len c]) hV2 ?_
    clear hV2 hV1 t0 t1 t2 t3 w0 w1 w2 f0 f1 f2
    intro V2 hV2
    have t1 := hV2.t.cell 1
    have t2 := hV2.t.cell 2
    have t3 := hV2.t.cell 3
    have w1 := hV2.w.cell 1
    have w2 := hV2.w.cell 2
    go_wp2_with (fail)
    go_ret
    exact ⟨by rw [HF.out]; rfl, hV2.bel⟩
  · skip
    have HF := Lib.hid (show headB 1 n s len = false by simp [headB, h0, h1, h2, h3])
    have d0 : decide ((-576460752303423488 : Int) ≤ n) = true := by simp; omega
    have d1 : decide (n ≤ 576460752303423487) = true := by simp; omega
    have d2 : ((len : Int) == 0) = true := by simp; omega
    have d3 : (s == []) = false := by simp [h3]
    have d4 : s.isEmpty = false := by simp [h3]
    have d5 : (!s.isEmpty) = true := by simp [h3]
    clear h0 h1 h2 h3
    go_enter Try.func60, Try.ntmps60
    go_upto_region 2 with (fail)
    go_region
    go_upto_region 5 with (fail)
    refine wp_world (IS W #[.int .i64 1, .int .i64 n, .string ⟨s.toArray⟩, .slice A len c] #[.int .i64 1, .int .i64 0, .string ⟨#[]⟩, .slice A len c]) (IS.new W _ _) ?_
    intro V1 hV1
    have t0 := hV1.t.cell 0
    have t1 := hV1.t.cell 1
    have t2 := hV1.t.cell 2
    have t3 := hV1.t.cell 3
    have w0 := hV1.w.cell 0
    have f0 := hV1.w.frozen 0
    have w1 := hV1.w.cell 1
    have f1 := hV1.w.frozen 1
    have w2 := hV1.w.cell 2
    have f2 := hV1.w.frozen 2
    go_upto_region 6 with (fail)
    go_region
    go_upto_region 20 with (fail)
    have hV2 := (hV1.set 1 (.int .i64 n)).drew
    refine wp_world (IS W #[.int .i64 1, .int .i64 n, .string ⟨s.toArray⟩, .slice A len c] #[.int .i64 1, .int .i64 n, .string ⟨#[]⟩, .slice A len c]) hV2 ?_
    clear hV2 hV1 t0 t1 t2 t3 w0 w1 w2 f0 f1 f2
    intro V2 hV2
    have t1 := hV2.t.cell 1
    have t2 := hV2.t.cell 2
    have t3 := hV2.t.cell 3
    have w1 := hV2.w.cell 1
    have w2 := hV2.w.cell 2
    go_wp2_with (fail)
    go_ret
    exact ⟨by rw [HF.out]; rfl, hV2.bel⟩
  · skip
    have HF := Lib.hid (show headB 1 n s len = true by simp [headB, h0, h1, h2, h3])
    have d0 : decide ((-576460752303423488 : Int) ≤ n) = true := by simp; omega
    have d1 : decide (n ≤ 576460752303423487) = true := by simp; omega
    have d2 : ((len : Int) == 0) = true := by simp; omega
    subst h3
    clear h0 h1 h2
    go_enter Try.func60, Try.ntmps60
    go_upto_region 2 with (fail)
    go_region
    go_upto_region 5 with (fail)
    refine wp_world (IS W #[.int .i64 1, .int .i64 n, .string ⟨[].toArray⟩, .slice A len c] #[.int .i64 1, .int .i64 0, .string ⟨#[]⟩, .slice A len c]) (IS.new W _ _) ?_
    intro V1 hV1
    have t0 := hV1.t.cell 0
    have t1 := hV1.t.cell 1
    have t2 := hV1.t.cell 2
    have t3 := hV1.t.cell 3
    have w0 := hV1.w.cell 0
    have f0 := hV1.w.frozen 0
    have w1 := hV1.w.cell 1
    have f1 := hV1.w.frozen 1
    have w2 := hV1.w.cell 2
    have f2 := hV1.w.frozen 2
    go_upto_region 6 with (fail)
    go_region
    go_upto_region 20 with (fail)
    have hV2 := (hV1.set 1 (.int .i64 n)).drew
    refine wp_world (IS W #[.int .i64 1, .int .i64 n, .string ⟨[].toArray⟩, .slice A len c] #[.int .i64 1, .int .i64 n, .string ⟨#[]⟩, .slice A len c]) hV2 ?_
    clear hV2 hV1 t0 t1 t2 t3 w0 w1 w2 f0 f1 f2
    intro V2 hV2
    have t1 := hV2.t.cell 1
    have t2 := hV2.t.cell 2
    have t3 := hV2.t.cell 3
    have w1 := hV2.w.cell 1
    have w2 := hV2.w.cell 2
    go_wp2_with (go_at_call 58; refine (HCT.out _ hV2.bel).mono ?_; rintro e w5 ⟨rfl, hb5⟩)
    go_ret
    exact ⟨by rw [HF.out]; simp, below_step hV2.bel hb5⟩

set_option maxRecDepth 100000 in
set_option maxHeartbeats 4000000 in
theorem is_k2 (n : Int) (s : List UInt8) (A : Option Addr) (len c : Nat) (b : Bool) (W : World) (hlc : len ≤ 9223372036854775807) (hsl : s.length ≤ 9223372036854775807)
    (hct : ∀ V, Below W.heap.size W V → Calls Try.prog 58 #[.slice A len c, .func (.func 89) #[] #[]] V fun e w' => e = .returned (.bool (!b)) ∧ Below V.heap.size V w') :
    Calls Try.prog 60 #[.agg #[.int .i64 2, .int .i64 n, .string ⟨s.toArray⟩, .slice A len c]] W (IsEnds W 2 n s len b) := by
  have HCT := Lib.hid hct
  clear hct
  have hway : (s = []) ∨ (s ≠ [] ∧ ¬ s.length ≤ 255) ∨ (s ≠ [] ∧ s.length ≤ 255 ∧ ¬ len = 0) ∨ (s ≠ [] ∧ s.length ≤ 255 ∧ len = 0 ∧ ¬ n = 0) ∨ (s ≠ [] ∧ s.length ≤ 255 ∧ len = 0 ∧ n = 0) := by
    by_cases g0 : s = []
    · exact .inl (g0)
    by_cases g1 : s.length ≤ 255
    rotate_left
    · exact .inr (.inl (⟨g0, g1⟩))
    by_cases g2 : len = 0
    rotate_left
    · exact .inr (.inr (.inl (⟨g0, g1, g2⟩)))
    by_cases g3 : n = 0
    rotate_left
    · exact .inr (.inr (.inr (.inl (⟨g0, g1, g2, g3⟩))))
    exact .inr (.inr (.inr (.inr (⟨g0, g1, g2, g3⟩))))
  rcases hway with h0 | ⟨h0, h1⟩ | ⟨h0, h1, h2⟩ | ⟨h0, h1, h2, h3⟩ | ⟨h0, h1, h2, h3⟩
  · skip
    have HF := Lib.hid (show headB 2 n s len = false by simp [headB, h0])
    subst h0
    skip
    go_enter Try.func60, Try.ntmps60
    go_upto_region 2 with (fail)
    go_region
    go_upto_region 5 with (fail)
    refine wp_world (IS W #[.int .i64 2, .int .i64 n, .string ⟨[].toArray⟩, .slice A len c] #[.int .i64 2, .int .i64 0, .string ⟨#[]⟩, .slice A len c]) (IS.new W _ _) ?_
    intro V1 hV1
    have t0 := hV1.t.cell 0
    have t1 := hV1.t.cell 1
    have t2 := hV1.t.cell 2
    have t3 := hV1.t.cell 3
    have w0 := hV1.w.cell 0
    have f0 := hV1.w.frozen 0
    have w1 := hV1.w.cell 1
    have f1 := hV1.w.frozen 1
    have w2 := hV1.w.cell 2
    have f2 := hV1.w.frozen 2
    go_upto_region 8 with (fail)
    go_region
    go_upto_region 20 with (fail)
    have hV2 := (hV1.set 2 (.string ⟨[].toArray⟩)).drew
    refine wp_world (IS W #[.int .i64 2, .int .i64 n, .string ⟨[].toArray⟩, .slice A len c] #[.int .i64 2, .int .i64 0, .string ⟨[].toArray⟩, .slice A len c]) hV2 ?_
    clear hV2 hV1 t0 t1 t2 t3 w0 w1 w2 f0 f1 f2
    intro V2 hV2
    have t1 := hV2.t.cell 1
    have t2 := hV2.t.cell 2
    have t3 := hV2.t.cell 3
    have w1 := hV2.w.cell 1
    have w2 := hV2.w.cell 2
    go_wp2_with (fail)
    go_ret
    exact ⟨by rw [HF.out]; rfl, hV2.bel⟩
  · skip
    have HF := Lib.hid (show headB 2 n s len = false by simp [headB, h0, h1])
    have d0 : (s == []) = false := by simp [h0]
    have d1 : s.isEmpty = false := by simp [h0]
    have d2 : (!s.isEmpty) = true := by simp [h0]
    have d3 : decide ((s.length : Int) ≤ 255) = false := by simp; omega
    clear h0 h1
    go_enter Try.func60, Try.ntmps60
    go_upto_region 2 with (fail)
    go_region
    go_upto_region 5 with (fail)
    refine wp_world (IS W #[.int .i64 2, .int .i64 n, .string ⟨s.toArray⟩, .slice A len c] #[.int .i64 2, .int .i64 0, .string ⟨#[]⟩, .slice A len c]) (IS.new W _ _) ?_
    intro V1 hV1
    have t0 := hV1.t.cell 0
    have t1 := hV1.t.cell 1
    have t2 := hV1.t.cell 2
    have t3 := hV1.t.cell 3
    have w0 := hV1.w.cell 0
    have f0 := hV1.w.frozen 0
    have w1 := hV1.w.cell 1
    have f1 := hV1.w.frozen 1
    have w2 := hV1.w.cell 2
    have f2 := hV1.w.frozen 2
    go_upto_region 8 with (fail)
    go_region
    go_upto_region 20 with (fail)
    have hV2 := (hV1.set 2 (.string ⟨s.toArray⟩)).drew
    refine wp_world (IS W #[.int .i64 2, .int .i64 n, .string ⟨s.toArray⟩, .slice A len c] #[.int .i64 2, .int .i64 0, .string ⟨s.toArray⟩, .slice A len c]) hV2 ?_
    clear hV2 hV1 t0 t1 t2 t3 w0 w1 w2 f0 f1 f2
    intro V2 hV2
    have t1 := hV2.t.cell 1
    have t2 := hV2.t.cell 2
    have t3 := hV2.t.cell 3
    have w1 := hV2.w.cell 1
    have w2 := hV2.w.cell 2
    go_wp2_with (fail)
    go_ret
    exact ⟨by rw [HF.out]; rfl, hV2.bel⟩
  · skip
    have HF := Lib.hid (show headB 2 n s len = false by simp [headB, h0, h1, h2])
    have d0 : (s == []) = false := by simp [h0]
    have d1 : s.isEmpty = false := by simp [h0]
    have d2 : (!s.isEmpty) = true := by simp [h0]
    have d3 : decide ((s.length : Int) ≤ 255) = true := by simp; omega
    have d4 : ((len : Int) == 0) = false := by simp; omega
    clear h0 h1 h2
    go_enter Try.func60, Try.ntmps60
    go_upto_region 2 with (fail)
    go_region
    go_upto_region 5 with (fail)
    refine wp_world (IS W #[.int .i64 2, .int .i64 n, .string ⟨s.toArray⟩, .slice A len c] #[.int .i64 2, .int .i64 0, .string ⟨#[]⟩, .slice A len c]) (IS.new W _ _) ?_
    intro V1 hV1
    have t0 := hV1.t.cell 0
    have t1 := hV1.t.cell 1
    have t2 := hV1.t.cell 2
    have t3 := hV1.t.cell 3
    have w0 := hV1.w.cell 0
    have f0 := hV1.w.frozen 0
    have w1 := hV1.w.cell 1
    have f1 := hV1.w.frozen 1
    have w2 := hV1.w.cell 2
    have f2 := hV1.w.frozen 2
    go_upto_region 8 with (fail)
    go_region
    go_upto_region 20 with (fail)
    have hV2 := (hV1.set 2 (.string ⟨s.toArray⟩)).drew
    refine wp_world (IS W #[.int .i64 2, .int .i64 n, .string ⟨s.toArray⟩, .slice A len c] #[.int .i64 2, .int .i64 0, .string ⟨s.toArray⟩, .slice A len c]) hV2 ?_
    clear hV2 hV1 t0 t1 t2 t3 w0 w1 w2 f0 f1 f2
    intro V2 hV2
    have t1 := hV2.t.cell 1
    have t2 := hV2.t.cell 2
    have t3 := hV2.t.cell 3
    have w1 := hV2.w.cell 1
    have w2 := hV2.w.cell 2
    go_wp2_with (fail)
    go_ret
    exact ⟨by rw [HF.out]; rfl, hV2.bel⟩
  · skip
    have HF := Lib.hid (show headB 2 n s len = false by simp [headB, h0, h1, h2, h3])
    have d0 : (s == []) = false := by simp [h0]
    have d1 : s.isEmpty = false := by simp [h0]
    have d2 : (!s.isEmpty) = true := by simp [h0]
    have d3 : decide ((s.length : Int) ≤ 255) = true := by simp; omega
    have d4 : ((len : Int) == 0) = true := by simp; omega
    have d5 : (n == 0) = false := by simp; omega
    clear h0 h1 h2 h3
    go_enter Try.func60, Try.ntmps60
    go_upto_region 2 with (fail)
    go_region
    go_upto_region 5 with (fail)
    refine wp_world (IS W #[.int .i64 2, .int .i64 n, .string ⟨s.toArray⟩, .slice A len c] #[.int .i64 2, .int .i64 0, .string ⟨#[]⟩, .slice A len c]) (IS.new W _ _) ?_
    intro V1 hV1
    have t0 := hV1.t.cell 0
    have t1 := hV1.t.cell 1
    have t2 := hV1.t.cell 2
    have t3 := hV1.t.cell 3
    have w0 := hV1.w.cell 0
    have f0 := hV1.w.frozen 0
    have w1 := hV1.w.cell 1
    have f1 := hV1.w.frozen 1
    have w2 := hV1.w.cell 2
    have f2 := hV1.w.frozen 2
    go_upto_region 8 with (fail)
    go_region
    go_upto_region 20 with (fail)
    have hV2 := (hV1.set 2 (.string ⟨s.toArray⟩)).drew
    refine wp_world (IS W #[.int .i64 2, .int .i64 n, .string ⟨s.toArray⟩, .slice A len c] #[.int .i64 2, .int .i64 0, .string ⟨s.toArray⟩, .slice A len c]) hV2 ?_
    clear hV2 hV1 t0 t1 t2 t3 w0 w1 w2 f0 f1 f2
    intro V2 hV2
    have t1 := hV2.t.cell 1
    have t2 := hV2.t.cell 2
    have t3 := hV2.t.cell 3
    have w1 := hV2.w.cell 1
    have w2 := hV2.w.cell 2
    go_wp2_with (fail)
    go_ret
    exact ⟨by rw [HF.out]; rfl, hV2.bel⟩
  · skip
    have HF := Lib.hid (show headB 2 n s len = true by simp [headB, h0, h1, h2, h3])
    have d0 : (s == []) = false := by simp [h0]
    have d1 : s.isEmpty = false := by simp [h0]
    have d2 : (!s.isEmpty) = true := by simp [h0]
    have d3 : decide ((s.length : Int) ≤ 255) = true := by simp; omega
    have d4 : ((len : Int) == 0) = true := by simp; omega
    have d5 : (n == 0) = true := by simp; omega
    clear h0 h1 h2 h3
    go_enter Try.func60, Try.ntmps60
    go_upto_region 2 with (fail)
    go_region
    go_upto_region 5 with (fail)
    refine wp_world (IS W #[.int .i64 2, .int .i64 n, .string ⟨s.toArray⟩, .slice A len c] #[.int .i64 2, .int .i64 0, .string ⟨#[]⟩, .slice A len c]) (IS.new W _ _) ?_
    intro V1 hV1
    have t0 := hV1.t.cell 0
    have t1 := hV1.t.cell 1
    have t2 := hV1.t.cell 2
    have t3 := hV1.t.cell 3
    have w0 := hV1.w.cell 0
    have f0 := hV1.w.frozen 0
    have w1 := hV1.w.cell 1
    have f1 := hV1.w.frozen 1
    have w2 := hV1.w.cell 2
    have f2 := hV1.w.frozen 2
    go_upto_region 8 with (fail)
    go_region
    go_upto_region 20 with (fail)
    have hV2 := (hV1.set 2 (.string ⟨s.toArray⟩)).drew
    refine wp_world (IS W #[.int .i64 2, .int .i64 n, .string ⟨s.toArray⟩, .slice A len c] #[.int .i64 2, .int .i64 0, .string ⟨s.toArray⟩, .slice A len c]) hV2 ?_
    clear hV2 hV1 t0 t1 t2 t3 w0 w1 w2 f0 f1 f2
    intro V2 hV2
    have t1 := hV2.t.cell 1
    have t2 := hV2.t.cell 2
    have t3 := hV2.t.cell 3
    have w1 := hV2.w.cell 1
    have w2 := hV2.w.cell 2
    go_wp2_with (go_at_call 58; refine (HCT.out _ hV2.bel).mono ?_; rintro e w5 ⟨rfl, hb5⟩)
    go_ret
    exact ⟨by rw [HF.out]; simp, below_step hV2.bel hb5⟩

set_option maxRecDepth 100000 in
set_option maxHeartbeats 4000000 in
theorem is_k3 (n : Int) (s : List UInt8) (A : Option Addr) (len c : Nat) (b : Bool) (W : World) (hlc : len ≤ 9223372036854775807) (hsl : s.length ≤ 9223372036854775807)
    (hct : ∀ V, Below W.heap.size W V → Calls Try.prog 58 #[.slice A len c, .func (.func 89) #[] #[]] V fun e w' => e = .returned (.bool (!b)) ∧ Below V.heap.size V w') :
    Calls Try.prog 60 #[.agg #[.int .i64 3, .int .i64 n, .string ⟨s.toArray⟩, .slice A len c]] W (IsEnds W 3 n s len b) := by
  have HCT := Lib.hid hct
  clear hct
  have hway : (¬ (0 : Int) ≤ n) ∨ ((0 : Int) ≤ n ∧ ¬ n ≤ 576460752303423487) ∨ ((0 : Int) ≤ n ∧ n ≤ 576460752303423487 ∧ ¬ len = 0) ∨ ((0 : Int) ≤ n ∧ n ≤ 576460752303423487 ∧ len = 0 ∧ ¬ s = []) ∨ ((0 : Int) ≤ n ∧ n ≤ 576460752303423487 ∧ len = 0 ∧ s = []) := by
    by_cases g0 : (0 : Int) ≤ n
    rotate_left
    · exact .inl (g0)
    by_cases g1 : n ≤ 576460752303423487
    rotate_left
    · exact .inr (.inl (⟨g0, g1⟩))
    by_cases g2 : len = 0
    rotate_left
    · exact .inr (.inr (.inl (⟨g0, g1, g2⟩)))
    by_cases g3 : s = []
    rotate_left
    · exact .inr (.inr (.inr (.inl (⟨g0, g1, g2, g3⟩))))
    exact .inr (.inr (.inr (.inr (⟨g0, g1, g2, g3⟩))))
  rcases hway with h0 | ⟨h0, h1⟩ | ⟨h0, h1, h2⟩ | ⟨h0, h1, h2, h3⟩ | ⟨h0, h1, h2, h3⟩
  · skip
    have HF := Lib.hid (show headB 3 n s len = false by simp [headB, h0])
    have d0 : decide ((0 : Int) ≤ n) = false := by simp; omega
    clear h0
    go_enter Try.func60, Try.ntmps60
    go_upto_region 2 with (fail)
    go_region
    go_upto_region 5 with (fail)
    refine wp_world (IS W #[.int .i64 3, .int .i64 n, .string ⟨s.toArray⟩, .slice A len c] #[.int .i64 3, .int .i64 0, .string ⟨#[]⟩, .slice A len c]) (IS.new W _ _) ?_
    intro V1 hV1
    have t0 := hV1.t.cell 0
    have t1 := hV1.t.cell 1
    have t2 := hV1.t.cell 2
    have t3 := hV1.t.cell 3
    have w0 := hV1.w.cell 0
    have f0 := hV1.w.frozen 0
    have w1 := hV1.w.cell 1
    have f1 := hV1.w.frozen 1
    have w2 := hV1.w.cell 2
    have f2 := hV1.w.frozen 2
    go_upto_region 11 with (fail)
    go_region
    go_upto_region 20 with (fail)
    have hV2 := (hV1.set 1 (.int .i64 n)).drew
    refine wp_world (IS W #[.int .i64 3, .int .i64 n, .string ⟨s.toArray⟩, .slice A len c] #[.int .i64 3, .int .i64 n, .string ⟨#[]⟩, .slice A len c]) hV2 ?_
    clear hV2 hV1 t0 t1 t2 t3 w0 w1 w2 f0 f1 f2
    intro V2 hV2
    have t1 := hV2.t.cell 1
    have t2 := hV2.t.cell 2
    have t3 := hV2.t.cell 3
    have w1 := hV2.w.cell 1
    have w2 := hV2.w.cell 2
    go_wp2_with (fail)
    go_ret
    exact ⟨by rw [HF.out]; rfl, hV2.bel⟩
  · skip
    have HF := Lib.hid (show headB 3 n s len = false by simp [headB, h0, h1])
    have d0 : decide ((0 : Int) ≤ n) = true := by simp; omega
    have d1 : decide (n ≤ 576460752303423487) = false := by simp; omega
    clear h0 h1
    go_enter Try.func60, Try.ntmps60
    go_upto_region 2 with (fail)
    go_region
    go_upto_region 5 with (fail)
    refine wp_world (IS W #[.int .i64 3, .int .i64 n, .string ⟨s.toArray⟩, .slice A len c] #[.int .i64 3, .int .i64 0, .string ⟨#[]⟩, .slice A len c]) (IS.new W _ _) ?_
    intro V1 hV1
    have t0 := hV1.t.cell 0
    have t1 := hV1.t.cell 1
    have t2 := hV1.t.cell 2
    have t3 := hV1.t.cell 3
    have w0 := hV1.w.cell 0
    have f0 := hV1.w.frozen 0
    have w1 := hV1.w.cell 1
    have f1 := hV1.w.frozen 1
    have w2 := hV1.w.cell 2
    have f2 := hV1.w.frozen 2
    go_upto_region 11 with (fail)
    go_region
    go_upto_region 20 with (fail)
    have hV2 := (hV1.set 1 (.int .i64 n)).drew
    refine wp_world (IS W #[.int .i64 3, .int .i64 n, .string ⟨s.toArray⟩, .slice A len c] #[.int .i64 3, .int .i64 n, .string ⟨#[]⟩, .slice A len c]) hV2 ?_
    clear hV2 hV1 t0 t1 t2 t3 w0 w1 w2 f0 f1 f2
    intro V2 hV2
    have t1 := hV2.t.cell 1
    have t2 := hV2.t.cell 2
    have t3 := hV2.t.cell 3
    have w1 := hV2.w.cell 1
    have w2 := hV2.w.cell 2
    go_wp2_with (fail)
    go_ret
    exact ⟨by rw [HF.out]; rfl, hV2.bel⟩
  · skip
    have HF := Lib.hid (show headB 3 n s len = false by simp [headB, h0, h1, h2])
    have d0 : decide ((0 : Int) ≤ n) = true := by simp; omega
    have d1 : decide (n ≤ 576460752303423487) = true := by simp; omega
    have d2 : ((len : Int) == 0) = false := by simp; omega
    clear h0 h1 h2
    go_enter Try.func60, Try.ntmps60
    go_upto_region 2 with (fail)
    go_region
    go_upto_region 5 with (fail)
    refine wp_world (IS W #[.int .i64 3, .int .i64 n, .string ⟨s.toArray⟩, .slice A len c] #[.int .i64 3, .int .i64 0, .string ⟨#[]⟩, .slice A len c]) (IS.new W _ _) ?_
    intro V1 hV1
    have t0 := hV1.t.cell 0
    have t1 := hV1.t.cell 1
    have t2 := hV1.t.cell 2
    have t3 := hV1.t.cell 3
    have w0 := hV1.w.cell 0
    have f0 := hV1.w.frozen 0
    have w1 := hV1.w.cell 1
    have f1 := hV1.w.frozen 1
    have w2 := hV1.w.cell 2
    have f2 := hV1.w.frozen 2
    go_upto_region 11 with (fail)
    go_region
    go_upto_region 20 with (fail)
    have hV2 := (hV1.set 1 (.int .i64 n)).drew
    refine wp_world (IS W #[.int .i64 3, .int .i64 n, .string ⟨s.toArray⟩, .slice A len c] #[.int .i64 3, .int .i64 n, .string ⟨#[]⟩, .slice A len c]) hV2 ?_
    clear hV2 hV1 t0 t1 t2 t3 w0 w1 w2 f0 f1 f2
    intro V2 hV2
    have t1 := hV2.t.cell 1
    have t2 := hV2.t.cell 2
    have t3 := hV2.t.cell 3
    have w1 := hV2.w.cell 1
    have w2 := hV2.w.cell 2
    go_wp2_with (fail)
    go_ret
    exact ⟨by rw [HF.out]; rfl, hV2.bel⟩
  · skip
    have HF := Lib.hid (show headB 3 n s len = false by simp [headB, h0, h1, h2, h3])
    have d0 : decide ((0 : Int) ≤ n) = true := by simp; omega
    have d1 : decide (n ≤ 576460752303423487) = true := by simp; omega
    have d2 : ((len : Int) == 0) = true := by simp; omega
    have d3 : (s == []) = false := by simp [h3]
    have d4 : s.isEmpty = false := by simp [h3]
    have d5 : (!s.isEmpty) = true := by simp [h3]
    clear h0 h1 h2 h3
    go_enter Try.func60, Try.ntmps60
    go_upto_region 2 with (fail)
    go_region
    go_upto_region 5 with (fail)
    refine wp_world (IS W #[.int .i64 3, .int .i64 n, .string ⟨s.toArray⟩, .slice A len c] #[.int .i64 3, .int .i64 0, .string ⟨#[]⟩, .slice A len c]) (IS.new W _ _) ?_
    intro V1 hV1
    have t0 := hV1.t.cell 0
    have t1 := hV1.t.cell 1
    have t2 := hV1.t.cell 2
    have t3 := hV1.t.cell 3
    have w0 := hV1.w.cell 0
    have f0 := hV1.w.frozen 0
    have w1 := hV1.w.cell 1
    have f1 := hV1.w.frozen 1
    have w2 := hV1.w.cell 2
    have f2 := hV1.w.frozen 2
    go_upto_region 11 with (fail)
    go_region
    go_upto_region 20 with (fail)
    have hV2 := (hV1.set 1 (.int .i64 n)).drew
    refine wp_world (IS W #[.int .i64 3, .int .i64 n, .string ⟨s.toArray⟩, .slice A len c] #[.int .i64 3, .int .i64 n, .string ⟨#[]⟩, .slice A len c]) hV2 ?_
    clear hV2 hV1 t0 t1 t2 t3 w0 w1 w2 f0 f1 f2
    intro V2 hV2
    have t1 := hV2.t.cell 1
    have t2 := hV2.t.cell 2
    have t3 := hV2.t.cell 3
    have w1 := hV2.w.cell 1
    have w2 := hV2.w.cell 2
    go_wp2_with (fail)
    go_ret
    exact ⟨by rw [HF.out]; rfl, hV2.bel⟩
  · skip
    have HF := Lib.hid (show headB 3 n s len = true by simp [headB, h0, h1, h2, h3])
    have d0 : decide ((0 : Int) ≤ n) = true := by simp; omega
    have d1 : decide (n ≤ 576460752303423487) = true := by simp; omega
    have d2 : ((len : Int) == 0) = true := by simp; omega
    subst h3
    clear h0 h1 h2
    go_enter Try.func60, Try.ntmps60
    go_upto_region 2 with (fail)
    go_region
    go_upto_region 5 with (fail)
    refine wp_world (IS W #[.int .i64 3, .int .i64 n, .string ⟨[].toArray⟩, .slice A len c] #[.int .i64 3, .int .i64 0, .string ⟨#[]⟩, .slice A len c]) (IS.new W _ _) ?_
    intro V1 hV1
    have t0 := hV1.t.cell 0
    have t1 := hV1.t.cell 1
    have t2 := hV1.t.cell 2
    have t3 := hV1.t.cell 3
    have w0 := hV1.w.cell 0
    have f0 := hV1.w.frozen 0
    have w1 := hV1.w.cell 1
    have f1 := hV1.w.frozen 1
    have w2 := hV1.w.cell 2
    have f2 := hV1.w.frozen 2
    go_upto_region 11 with (fail)
    go_region
    go_upto_region 20 with (fail)
    have hV2 := (hV1.set 1 (.int .i64 n)).drew
    refine wp_world (IS W #[.int .i64 3, .int .i64 n, .string ⟨[].toArray⟩, .slice A len c] #[.int .i64 3, .int .i64 n, .string ⟨#[]⟩, .slice A len c]) hV2 ?_
    clear hV2 hV1 t0 t1 t2 t3 w0 w1 w2 f0 f1 f2
    intro V2 hV2
    have t1 := hV2.t.cell 1
    have t2 := hV2.t.cell 2
    have t3 := hV2.t.cell 3
    have w1 := hV2.w.cell 1
    have w2 := hV2.w.cell 2
    go_wp2_with (go_at_call 58; refine (HCT.out _ hV2.bel).mono ?_; rintro e w5 ⟨rfl, hb5⟩)
    go_ret
    exact ⟨by rw [HF.out]; simp, below_step hV2.bel hb5⟩

set_option maxRecDepth 100000 in
set_option maxHeartbeats 4000000 in
theorem is_k5 (n : Int) (s : List UInt8) (A : Option Addr) (len c : Nat) (b : Bool) (W : World) (hlc : len ≤ 9223372036854775807) (hsl : s.length ≤ 9223372036854775807)
    (hct : ∀ V, Below W.heap.size W V → Calls Try.prog 58 #[.slice A len c, .func (.func 89) #[] #[]] V fun e w' => e = .returned (.bool (!b)) ∧ Below V.heap.size V w') :
    Calls Try.prog 60 #[.agg #[.int .i64 5, .int .i64 n, .string ⟨s.toArray⟩, .slice A len c]] W (IsEnds W 5 n s len b) := by
  have HCT := Lib.hid hct
  clear hct
  have hway : (¬ (0 : Int) ≤ n) ∨ ((0 : Int) ≤ n ∧ ¬ n ≤ 576460752303423487) ∨ ((0 : Int) ≤ n ∧ n ≤ 576460752303423487 ∧ ¬ len = 0) ∨ ((0 : Int) ≤ n ∧ n ≤ 576460752303423487 ∧ len = 0 ∧ ¬ s = []) ∨ ((0 : Int) ≤ n ∧ n ≤ 576460752303423487 ∧ len = 0 ∧ s = []) := by
    by_cases g0 : (0 : Int) ≤ n
    rotate_left
    · exact .inl (g0)
    by_cases g1 : n ≤ 576460752303423487
    rotate_left
    · exact .inr (.inl (⟨g0, g1⟩))
    by_cases g2 : len = 0
    rotate_left
    · exact .inr (.inr (.inl (⟨g0, g1, g2⟩)))
    by_cases g3 : s = []
    rotate_left
    · exact .inr (.inr (.inr (.inl (⟨g0, g1, g2, g3⟩))))
    exact .inr (.inr (.inr (.inr (⟨g0, g1, g2, g3⟩))))
  rcases hway with h0 | ⟨h0, h1⟩ | ⟨h0, h1, h2⟩ | ⟨h0, h1, h2, h3⟩ | ⟨h0, h1, h2, h3⟩
  · skip
    have HF := Lib.hid (show headB 5 n s len = false by simp [headB, h0])
    have d0 : decide ((0 : Int) ≤ n) = false := by simp; omega
    clear h0
    go_enter Try.func60, Try.ntmps60
    go_upto_region 2 with (fail)
    go_region
    go_upto_region 5 with (fail)
    refine wp_world (IS W #[.int .i64 5, .int .i64 n, .string ⟨s.toArray⟩, .slice A len c] #[.int .i64 5, .int .i64 0, .string ⟨#[]⟩, .slice A len c]) (IS.new W _ _) ?_
    intro V1 hV1
    have t0 := hV1.t.cell 0
    have t1 := hV1.t.cell 1
    have t2 := hV1.t.cell 2
    have t3 := hV1.t.cell 3
    have w0 := hV1.w.cell 0
    have f0 := hV1.w.frozen 0
    have w1 := hV1.w.cell 1
    have f1 := hV1.w.frozen 1
    have w2 := hV1.w.cell 2
    have f2 := hV1.w.frozen 2
    go_upto_region 11 with (fail)
    go_region
    go_upto_region 20 with (fail)
    have hV2 := (hV1.set 1 (.int .i64 n)).drew
    refine wp_world (IS W #[.int .i64 5, .int .i64 n, .string ⟨s.toArray⟩, .slice A len c] #[.int .i64 5, .int .i64 n, .string ⟨#[]⟩, .slice A len c]) hV2 ?_
    clear hV2 hV1 t0 t1 t2 t3 w0 w1 w2 f0 f1 f2
    intro V2 hV2
    have t1 := hV2.t.cell 1
    have t2 := hV2.t.cell 2
    have t3 := hV2.t.cell 3
    have w1 := hV2.w.cell 1
    have w2 := hV2.w.cell 2
    go_wp2_with (fail)
    go_ret
    exact ⟨by rw [HF.out]; rfl, hV2.bel⟩
  · skip
    have HF := Lib.hid (show headB 5 n s len = false by simp [headB, h0, h1])
    have d0 : decide ((0 : Int) ≤ n) = true := by simp; omega
    have d1 : decide (n ≤ 576460752303423487) = false := by simp; omega
    clear h0 h1
    go_enter Try.func60, Try.ntmps60
    go_upto_region 2 with (fail)
    go_region
    go_upto_region 5 with (fail)
    refine wp_world (IS W #[.int .i64 5, .int .i64 n, .string ⟨s.toArray⟩, .slice A len c] #[.int .i64 5, .int .i64 0, .string ⟨#[]⟩, .slice A len c]) (IS.new W _ _) ?_
    intro V1 hV1
    have t0 := hV1.t.cell 0
    have t1 := hV1.t.cell 1
    have t2 := hV1.t.cell 2
    have t3 := hV1.t.cell 3
    have w0 := hV1.w.cell 0
    have f0 := hV1.w.frozen 0
    have w1 := hV1.w.cell 1
    have f1 := hV1.w.frozen 1
    have w2 := hV1.w.cell 2
    have f2 := hV1.w.frozen 2
    go_upto_region 11 with (fail)
    go_region
    go_upto_region 20 with (fail)
    have hV2 := (hV1.set 1 (.int .i64 n)).drew
    refine wp_world (IS W #[.int .i64 5, .int .i64 n, .string ⟨s.toArray⟩, .slice A len c] #[.int .i64 5, .int .i64 n, .string ⟨#[]⟩, .slice A len c]) hV2 ?_
    clear hV2 hV1 t0 t1 t2 t3 w0 w1 w2 f0 f1 f2
    intro V2 hV2
    have t1 := hV2.t.cell 1
    have t2 := hV2.t.cell 2
    have t3 := hV2.t.cell 3
    have w1 := hV2.w.cell 1
    have w2 := hV2.w.cell 2
    go_wp2_with (fail)
    go_ret
    exact ⟨by rw [HF.out]; rfl, hV2.bel⟩
  · skip
    have HF := Lib.hid (show headB 5 n s len = false by simp [headB, h0, h1, h2])
    have d0 : decide ((0 : Int) ≤ n) = true := by simp; omega
    have d1 : decide (n ≤ 576460752303423487) = true := by simp; omega
    have d2 : ((len : Int) == 0) = false := by simp; omega
    clear h0 h1 h2
    go_enter Try.func60, Try.ntmps60
    go_upto_region 2 with (fail)
    go_region
    go_upto_region 5 with (fail)
    refine wp_world (IS W #[.int .i64 5, .int .i64 n, .string ⟨s.toArray⟩, .slice A len c] #[.int .i64 5, .int .i64 0, .string ⟨#[]⟩, .slice A len c]) (IS.new W _ _) ?_
    intro V1 hV1
    have t0 := hV1.t.cell 0
    have t1 := hV1.t.cell 1
    have t2 := hV1.t.cell 2
    have t3 := hV1.t.cell 3
    have w0 := hV1.w.cell 0
    have f0 := hV1.w.frozen 0
    have w1 := hV1.w.cell 1
    have f1 := hV1.w.frozen 1
    have w2 := hV1.w.cell 2
    have f2 := hV1.w.frozen 2
    go_upto_region 11 with (fail)
    go_region
    go_upto_region 20 with (fail)
    have hV2 := (hV1.set 1 (.int .i64 n)).drew
    refine wp_world (IS W #[.int .i64 5, .int .i64 n, .string ⟨s.toArray⟩, .slice A len c] #[.int .i64 5, .int .i64 n, .string ⟨#[]⟩, .slice A len c]) hV2 ?_
    clear hV2 hV1 t0 t1 t2 t3 w0 w1 w2 f0 f1 f2
    intro V2 hV2
    have t1 := hV2.t.cell 1
    have t2 := hV2.t.cell 2
    have t3 := hV2.t.cell 3
    have w1 := hV2.w.cell 1
    have w2 := hV2.w.cell 2
    go_wp2_with (fail)
    go_ret
    exact ⟨by rw [HF.out]; rfl, hV2.bel⟩
  · skip
    have HF := Lib.hid (show headB 5 n s len = false by simp [headB, h0, h1, h2, h3])
    have d0 : decide ((0 : Int) ≤ n) = true := by simp; omega
    have d1 : decide (n ≤ 576460752303423487) = true := by simp; omega
    have d2 : ((len : Int) == 0) = true := by simp; omega
    have d3 : (s == []) = false := by simp [h3]
    have d4 : s.isEmpty = false := by simp [h3]
    have d5 : (!s.isEmpty) = true := by simp [h3]
    clear h0 h1 h2 h3
    go_enter Try.func60, Try.ntmps60
    go_upto_region 2 with (fail)
    go_region
    go_upto_region 5 with (fail)
    refine wp_world (IS W #[.int .i64 5, .int .i64 n, .string ⟨s.toArray⟩, .slice A len c] #[.int .i64 5, .int .i64 0, .string ⟨#[]⟩, .slice A len c]) (IS.new W _ _) ?_
    intro V1 hV1
    have t0 := hV1.t.cell 0
    have t1 := hV1.t.cell 1
    have t2 := hV1.t.cell 2
    have t3 := hV1.t.cell 3
    have w0 := hV1.w.cell 0
    have f0 := hV1.w.frozen 0
    have w1 := hV1.w.cell 1
    have f1 := hV1.w.frozen 1
    have w2 := hV1.w.cell 2
    have f2 := hV1.w.frozen 2
    go_upto_region 11 with (fail)
    go_region
    go_upto_region 20 with (fail)
    have hV2 := (hV1.set 1 (.int .i64 n)).drew
    refine wp_world (IS W #[.int .i64 5, .int .i64 n, .string ⟨s.toArray⟩, .slice A len c] #[.int .i64 5, .int .i64 n, .string ⟨#[]⟩, .slice A len c]) hV2 ?_
    clear hV2 hV1 t0 t1 t2 t3 w0 w1 w2 f0 f1 f2
    intro V2 hV2
    have t1 := hV2.t.cell 1
    have t2 := hV2.t.cell 2
    have t3 := hV2.t.cell 3
    have w1 := hV2.w.cell 1
    have w2 := hV2.w.cell 2
    go_wp2_with (fail)
    go_ret
    exact ⟨by rw [HF.out]; rfl, hV2.bel⟩
  · skip
    have HF := Lib.hid (show headB 5 n s len = true by simp [headB, h0, h1, h2, h3])
    have d0 : decide ((0 : Int) ≤ n) = true := by simp; omega
    have d1 : decide (n ≤ 576460752303423487) = true := by simp; omega
    have d2 : ((len : Int) == 0) = true := by simp; omega
    subst h3
    clear h0 h1 h2
    go_enter Try.func60, Try.ntmps60
    go_upto_region 2 with (fail)
    go_region
    go_upto_region 5 with (fail)
    refine wp_world (IS W #[.int .i64 5, .int .i64 n, .string ⟨[].toArray⟩, .slice A len c] #[.int .i64 5, .int .i64 0, .string ⟨#[]⟩, .slice A len c]) (IS.new W _ _) ?_
    intro V1 hV1
    have t0 := hV1.t.cell 0
    have t1 := hV1.t.cell 1
    have t2 := hV1.t.cell 2
    have t3 := hV1.t.cell 3
    have w0 := hV1.w.cell 0
    have f0 := hV1.w.frozen 0
    have w1 := hV1.w.cell 1
    have f1 := hV1.w.frozen 1
    have w2 := hV1.w.cell 2
    have f2 := hV1.w.frozen 2
    go_upto_region 11 with (fail)
    go_region
    go_upto_region 20 with (fail)
    have hV2 := (hV1.set 1 (.int .i64 n)).drew
    refine wp_world (IS W #[.int .i64 5, .int .i64 n, .string ⟨[].toArray⟩, .slice A len c] #[.int .i64 5, .int .i64 n, .string ⟨#[]⟩, .slice A len c]) hV2 ?_
    clear hV2 hV1 t0 t1 t2 t3 w0 w1 w2 f0 f1 f2
    intro V2 hV2
    have t1 := hV2.t.cell 1
    have t2 := hV2.t.cell 2
    have t3 := hV2.t.cell 3
    have w1 := hV2.w.cell 1
    have w2 := hV2.w.cell 2
    go_wp2_with (go_at_call 58; refine (HCT.out _ hV2.bel).mono ?_; rintro e w5 ⟨rfl, hb5⟩)
    go_ret
    exact ⟨by rw [HF.out]; simp, below_step hV2.bel hb5⟩

set_option maxRecDepth 100000 in
set_option maxHeartbeats 4000000 in
theorem is_k4 (n : Int) (s : List UInt8) (A : Option Addr) (len c : Nat) (b : Bool) (W : World) (hlc : len ≤ 9223372036854775807) (hsl : s.length ≤ 9223372036854775807)
    (hct : ∀ V, Below W.heap.size W V → Calls Try.prog 58 #[.slice A len c, .func (.func 89) #[] #[]] V fun e w' => e = .returned (.bool (!b)) ∧ Below V.heap.size V w') :
    Calls Try.prog 60 #[.agg #[.int .i64 4, .int .i64 n, .string ⟨s.toArray⟩, .slice A len c]] W (IsEnds W 4 n s len b) := by
  have HCT := Lib.hid hct
  clear hct
  have hway : (¬ (0 : Int) ≤ n) ∨ ((0 : Int) ≤ n ∧ ¬ n ≤ 576460752303423487) ∨ ((0 : Int) ≤ n ∧ n ≤ 576460752303423487 ∧ ¬ s = []) ∨ ((0 : Int) ≤ n ∧ n ≤ 576460752303423487 ∧ s = []) := by
    by_cases g0 : (0 : Int) ≤ n
    rotate_left
    · exact .inl (g0)
    by_cases g1 : n ≤ 576460752303423487
    rotate_left
    · exact .inr (.inl (⟨g0, g1⟩))
    by_cases g2 : s = []
    rotate_left
    · exact .inr (.inr (.inl (⟨g0, g1, g2⟩)))
    exact .inr (.inr (.inr (⟨g0, g1, g2⟩)))
  rcases hway with h0 | ⟨h0, h1⟩ | ⟨h0, h1, h2⟩ | ⟨h0, h1, h2⟩
  · skip
    have HF := Lib.hid (show headB 4 n s len = false by simp [headB, h0])
    have d0 : decide ((0 : Int) ≤ n) = false := by simp; omega
    clear h0
    go_enter Try.func60, Try.ntmps60
    go_upto_region 2 with (fail)
    go_region
    go_upto_region 5 with (fail)
    refine wp_world (IS W #[.int .i64 4, .int .i64 n, .string ⟨s.toArray⟩, .slice A len c] #[.int .i64 4, .int .i64 0, .string ⟨#[]⟩, .slice A len c]) (IS.new W _ _) ?_
    intro V1 hV1
    have t0 := hV1.t.cell 0
    have t1 := hV1.t.cell 1
    have t2 := hV1.t.cell 2
    have t3 := hV1.t.cell 3
    have w0 := hV1.w.cell 0
    have f0 := hV1.w.frozen 0
    have w1 := hV1.w.cell 1
    have f1 := hV1.w.frozen 1
    have w2 := hV1.w.cell 2
    have f2 := hV1.w.frozen 2
    go_upto_region 13 with (fail)
    go_region
    go_upto_region 20 with (fail)
    have hV2 := (hV1.set 1 (.int .i64 n)).drew
    refine wp_world (IS W #[.int .i64 4, .int .i64 n, .string ⟨s.toArray⟩, .slice A len c] #[.int .i64 4, .int .i64 n, .string ⟨#[]⟩, .slice A len c]) hV2 ?_
    clear hV2 hV1 t0 t1 t2 t3 w0 w1 w2 f0 f1 f2
    intro V2 hV2
    have t1 := hV2.t.cell 1
    have t2 := hV2.t.cell 2
    have t3 := hV2.t.cell 3
    have w1 := hV2.w.cell 1
    have w2 := hV2.w.cell 2
    go_wp2_with (fail)
    go_ret
    exact ⟨by rw [HF.out]; rfl, hV2.bel⟩
  · skip
    have HF := Lib.hid (show headB 4 n s len = false by simp [headB, h0, h1])
    have d0 : decide ((0 : Int) ≤ n) = true := by simp; omega
    have d1 : decide (n ≤ 576460752303423487) = false := by simp; omega
    clear h0 h1
    go_enter Try.func60, Try.ntmps60
    go_upto_region 2 with (fail)
    go_region
    go_upto_region 5 with (fail)
    refine wp_world (IS W #[.int .i64 4, .int .i64 n, .string ⟨s.toArray⟩, .slice A len c] #[.int .i64 4, .int .i64 0, .string ⟨#[]⟩, .slice A len c]) (IS.new W _ _) ?_
    intro V1 hV1
    have t0 := hV1.t.cell 0
    have t1 := hV1.t.cell 1
    have t2 := hV1.t.cell 2
    have t3 := hV1.t.cell 3
    have w0 := hV1.w.cell 0
    have f0 := hV1.w.frozen 0
    have w1 := hV1.w.cell 1
    have f1 := hV1.w.frozen 1
    have w2 := hV1.w.cell 2
    have f2 := hV1.w.frozen 2
    go_upto_region 13 with (fail)
    go_region
    go_upto_region 20 with (fail)
    have hV2 := (hV1.set 1 (.int .i64 n)).drew
    refine wp_world (IS W #[.int .i64 4, .int .i64 n, .string ⟨s.toArray⟩, .slice A len c] #[.int .i64 4, .int .i64 n, .string ⟨#[]⟩, .slice A len c]) hV2 ?_
    clear hV2 hV1 t0 t1 t2 t3 w0 w1 w2 f0 f1 f2
    intro V2 hV2
    have t1 := hV2.t.cell 1
    have t2 := hV2.t.cell 2
    have t3 := hV2.t.cell 3
    have w1 := hV2.w.cell 1
    have w2 := hV2.w.cell 2
    go_wp2_with (fail)
    go_ret
    exact ⟨by rw [HF.out]; rfl, hV2.bel⟩
  · skip
    have HF := Lib.hid (show headB 4 n s len = false by simp [headB, h0, h1, h2])
    have d0 : decide ((0 : Int) ≤ n) = true := by simp; omega
    have d1 : decide (n ≤ 576460752303423487) = true := by simp; omega
    have d2 : (s == []) = false := by simp [h2]
    have d3 : s.isEmpty = false := by simp [h2]
    have d4 : (!s.isEmpty) = true := by simp [h2]
    clear h0 h1 h2
    go_enter Try.func60, Try.ntmps60
    go_upto_region 2 with (fail)
    go_region
    go_upto_region 5 with (fail)
    refine wp_world (IS W #[.int .i64 4, .int .i64 n, .string ⟨s.toArray⟩, .slice A len c] #[.int .i64 4, .int .i64 0, .string ⟨#[]⟩, .slice A len c]) (IS.new W _ _) ?_
    intro V1 hV1
    have t0 := hV1.t.cell 0
    have t1 := hV1.t.cell 1
    have t2 := hV1.t.cell 2
    have t3 := hV1.t.cell 3
    have w0 := hV1.w.cell 0
    have f0 := hV1.w.frozen 0
    have w1 := hV1.w.cell 1
    have f1 := hV1.w.frozen 1
    have w2 := hV1.w.cell 2
    have f2 := hV1.w.frozen 2
    go_upto_region 13 with (fail)
    go_region
    go_upto_region 20 with (fail)
    have hV2 := (hV1.set 1 (.int .i64 n)).drew
    refine wp_world (IS W #[.int .i64 4, .int .i64 n, .string ⟨s.toArray⟩, .slice A len c] #[.int .i64 4, .int .i64 n, .string ⟨#[]⟩, .slice A len c]) hV2 ?_
    clear hV2 hV1 t0 t1 t2 t3 w0 w1 w2 f0 f1 f2
    intro V2 hV2
    have t1 := hV2.t.cell 1
    have t2 := hV2.t.cell 2
    have t3 := hV2.t.cell 3
    have w1 := hV2.w.cell 1
    have w2 := hV2.w.cell 2
    go_wp2_with (fail)
    go_ret
    exact ⟨by rw [HF.out]; rfl, hV2.bel⟩
  · skip
    have HF := Lib.hid (show headB 4 n s len = true by simp [headB, h0, h1, h2])
    have d0 : decide ((0 : Int) ≤ n) = true := by simp; omega
    have d1 : decide (n ≤ 576460752303423487) = true := by simp; omega
    subst h2
    clear h0 h1
    go_enter Try.func60, Try.ntmps60
    go_upto_region 2 with (fail)
    go_region
    go_upto_region 5 with (fail)
    refine wp_world (IS W #[.int .i64 4, .int .i64 n, .string ⟨[].toArray⟩, .slice A len c] #[.int .i64 4, .int .i64 0, .string ⟨#[]⟩, .slice A len c]) (IS.new W _ _) ?_
    intro V1 hV1
    have t0 := hV1.t.cell 0
    have t1 := hV1.t.cell 1
    have t2 := hV1.t.cell 2
    have t3 := hV1.t.cell 3
    have w0 := hV1.w.cell 0
    have f0 := hV1.w.frozen 0
    have w1 := hV1.w.cell 1
    have f1 := hV1.w.frozen 1
    have w2 := hV1.w.cell 2
    have f2 := hV1.w.frozen 2
    go_upto_region 13 with (fail)
    go_region
    go_upto_region 20 with (fail)
    have hV2 := (hV1.set 1 (.int .i64 n)).drew
    refine wp_world (IS W #[.int .i64 4, .int .i64 n, .string ⟨[].toArray⟩, .slice A len c] #[.int .i64 4, .int .i64 n, .string ⟨#[]⟩, .slice A len c]) hV2 ?_
    clear hV2 hV1 t0 t1 t2 t3 w0 w1 w2 f0 f1 f2
    intro V2 hV2
    have t1 := hV2.t.cell 1
    have t2 := hV2.t.cell 2
    have t3 := hV2.t.cell 3
    have w1 := hV2.w.cell 1
    have w2 := hV2.w.cell 2
    go_wp2_with (go_at_call 58; refine (HCT.out _ hV2.bel).mono ?_; rintro e w5 ⟨rfl, hb5⟩)
    go_ret
    exact ⟨by rw [HF.out]; simp, below_step hV2.bel hb5⟩

set_option maxRecDepth 100000 in
set_option maxHeartbeats 4000000 in
theorem is_k6 (n : Int) (s : List UInt8) (A : Option Addr) (len c : Nat) (b : Bool) (W : World) (hlc : len ≤ 9223372036854775807) (hsl : s.length ≤ 9223372036854775807)
    (hct : ∀ V, Below W.heap.size W V → Calls Try.prog 58 #[.slice A len c, .func (.func 89) #[] #[]] V fun e w' => e = .returned (.bool (!b)) ∧ Below V.heap.size V w') :
    Calls Try.prog 60 #[.agg #[.int .i64 6, .int .i64 n, .string ⟨s.toArray⟩, .slice A len c]] W (IsEnds W 6 n s len b) := by
  have HCT := Lib.hid hct
  clear hct
  have hway : (¬ n = 0) ∨ (n = 0 ∧ ¬ s = []) ∨ (n = 0 ∧ s = []) := by
    by_cases g0 : n = 0
    rotate_left
    · exact .inl (g0)
    by_cases g1 : s = []
    rotate_left
    · exact .inr (.inl (⟨g0, g1⟩))
    exact .inr (.inr (⟨g0, g1⟩))
  rcases hway with h0 | ⟨h0, h1⟩ | ⟨h0, h1⟩
  · skip
    have HF := Lib.hid (show headB 6 n s len = false by simp [headB, h0])
    have d0 : (n == 0) = false := by simp; omega
    clear h0
    go_enter Try.func60, Try.ntmps60
    go_upto_region 2 with (fail)
    go_region
    go_upto_region 5 with (fail)
    refine wp_world (IS W #[.int .i64 6, .int .i64 n, .string ⟨s.toArray⟩, .slice A len c] #[.int .i64 6, .int .i64 0, .string ⟨#[]⟩, .slice A len c]) (IS.new W _ _) ?_
    intro V1 hV1
    have t0 := hV1.t.cell 0
    have t1 := hV1.t.cell 1
    have t2 := hV1.t.cell 2
    have t3 := hV1.t.cell 3
    have w0 := hV1.w.cell 0
    have f0 := hV1.w.frozen 0
    have w1 := hV1.w.cell 1
    have f1 := hV1.w.frozen 1
    have w2 := hV1.w.cell 2
    have f2 := hV1.w.frozen 2
    go_upto_region 20 with (fail)
    clear t0 t1 t2 t3 w0 w1 w2 f0 f1 f2
    have hV2 := hV1
    have t1 := hV2.t.cell 1
    have t2 := hV2.t.cell 2
    have t3 := hV2.t.cell 3
    have w1 := hV2.w.cell 1
    have w2 := hV2.w.cell 2
    go_wp2_with (fail)
    go_ret
    exact ⟨by rw [HF.out]; rfl, hV2.bel⟩
  · skip
    have HF := Lib.hid (show headB 6 n s len = false by simp [headB, h0, h1])
    have d0 : (n == 0) = true := by simp; omega
    have d1 : (s == []) = false := by simp [h1]
    have d2 : s.isEmpty = false := by simp [h1]
    have d3 : (!s.isEmpty) = true := by simp [h1]
    clear h0 h1
    go_enter Try.func60, Try.ntmps60
    go_upto_region 2 with (fail)
    go_region
    go_upto_region 5 with (fail)
    refine wp_world (IS W #[.int .i64 6, .int .i64 n, .string ⟨s.toArray⟩, .slice A len c] #[.int .i64 6, .int .i64 0, .string ⟨#[]⟩, .slice A len c]) (IS.new W _ _) ?_
    intro V1 hV1
    have t0 := hV1.t.cell 0
    have t1 := hV1.t.cell 1
    have t2 := hV1.t.cell 2
    have t3 := hV1.t.cell 3
    have w0 := hV1.w.cell 0
    have f0 := hV1.w.frozen 0
    have w1 := hV1.w.cell 1
    have f1 := hV1.w.frozen 1
    have w2 := hV1.w.cell 2
    have f2 := hV1.w.frozen 2
    go_upto_region 20 with (fail)
    clear t0 t1 t2 t3 w0 w1 w2 f0 f1 f2
    have hV2 := hV1
    have t1 := hV2.t.cell 1
    have t2 := hV2.t.cell 2
    have t3 := hV2.t.cell 3
    have w1 := hV2.w.cell 1
    have w2 := hV2.w.cell 2
    go_wp2_with (fail)
    go_ret
    exact ⟨by rw [HF.out]; rfl, hV2.bel⟩
  · skip
    have HF := Lib.hid (show headB 6 n s len = true by simp [headB, h0, h1])
    have d0 : (n == 0) = true := by simp; omega
    subst h1
    clear h0
    go_enter Try.func60, Try.ntmps60
    go_upto_region 2 with (fail)
    go_region
    go_upto_region 5 with (fail)
    refine wp_world (IS W #[.int .i64 6, .int .i64 n, .string ⟨[].toArray⟩, .slice A len c] #[.int .i64 6, .int .i64 0, .string ⟨#[]⟩, .slice A len c]) (IS.new W _ _) ?_
    intro V1 hV1
    have t0 := hV1.t.cell 0
    have t1 := hV1.t.cell 1
    have t2 := hV1.t.cell 2
    have t3 := hV1.t.cell 3
    have w0 := hV1.w.cell 0
    have f0 := hV1.w.frozen 0
    have w1 := hV1.w.cell 1
    have f1 := hV1.w.frozen 1
    have w2 := hV1.w.cell 2
    have f2 := hV1.w.frozen 2
    go_upto_region 20 with (fail)
    clear t0 t1 t2 t3 w0 w1 w2 f0 f1 f2
    have hV2 := hV1
    have t1 := hV2.t.cell 1
    have t2 := hV2.t.cell 2
    have t3 := hV2.t.cell 3
    have w1 := hV2.w.cell 1
    have w2 := hV2.w.cell 2
    go_wp2_with (go_at_call 58; refine (HCT.out _ hV2.bel).mono ?_; rintro e w5 ⟨rfl, hb5⟩)
    go_ret
    exact ⟨by rw [HF.out]; simp, below_step hV2.bel hb5⟩

set_option maxRecDepth 100000 in
set_option maxHeartbeats 4000000 in
theorem is_k7 (n : Int) (s : List UInt8) (A : Option Addr) (len c : Nat) (b : Bool) (W : World) (hlc : len ≤ 9223372036854775807) (hsl : s.length ≤ 9223372036854775807)
    (hct : ∀ V, Below W.heap.size W V → Calls Try.prog 58 #[.slice A len c, .func (.func 89) #[] #[]] V fun e w' => e = .returned (.bool (!b)) ∧ Below V.heap.size V w') :
    Calls Try.prog 60 #[.agg #[.int .i64 7, .int .i64 n, .string ⟨s.toArray⟩, .slice A len c]] W (IsEnds W 7 n s len b) := by
  have HCT := Lib.hid hct
  clear hct
  have hway : (¬ len = 0) ∨ (len = 0 ∧ ¬ n = 0) ∨ (len = 0 ∧ n = 0 ∧ ¬ s = []) ∨ (len = 0 ∧ n = 0 ∧ s = []) := by
    by_cases g0 : len = 0
    rotate_left
    · exact .inl (g0)
    by_cases g1 : n = 0
    rotate_left
    · exact .inr (.inl (⟨g0, g1⟩))
    by_cases g2 : s = []
    rotate_left
    · exact .inr (.inr (.inl (⟨g0, g1, g2⟩)))
    exact .inr (.inr (.inr (⟨g0, g1, g2⟩)))
  rcases hway with h0 | ⟨h0, h1⟩ | ⟨h0, h1, h2⟩ | ⟨h0, h1, h2⟩
  · skip
    have HF := Lib.hid (show headB 7 n s len = false by simp [headB, h0])
    have d0 : ((len : Int) == 0) = false := by simp; omega
    clear h0
    go_enter Try.func60, Try.ntmps60
    go_upto_region 2 with (fail)
    go_region
    go_upto_region 5 with (fail)
    refine wp_world (IS W #[.int .i64 7, .int .i64 n, .string ⟨s.toArray⟩, .slice A len c] #[.int .i64 7, .int .i64 0, .string ⟨#[]⟩, .slice A len c]) (IS.new W _ _) ?_
    intro V1 hV1
    have t0 := hV1.t.cell 0
    have t1 := hV1.t.cell 1
    have t2 := hV1.t.cell 2
    have t3 := hV1.t.cell 3
    have w0 := hV1.w.cell 0
    have f0 := hV1.w.frozen 0
    have w1 := hV1.w.cell 1
    have f1 := hV1.w.frozen 1
    have w2 := hV1.w.cell 2
    have f2 := hV1.w.frozen 2
    go_upto_region 20 with (fail)
    clear t0 t1 t2 t3 w0 w1 w2 f0 f1 f2
    have hV2 := hV1
    have t1 := hV2.t.cell 1
    have t2 := hV2.t.cell 2
    have t3 := hV2.t.cell 3
    have w1 := hV2.w.cell 1
    have w2 := hV2.w.cell 2
    go_wp2_with (fail)
    go_ret
    exact ⟨by rw [HF.out]; rfl, hV2.bel⟩
  · skip
    have HF := Lib.hid (show headB 7 n s len = false by simp [headB, h0, h1])
    have d0 : ((len : Int) == 0) = true := by simp; omega
    have d1 : (n == 0) = false := by simp; omega
    clear h0 h1
    go_enter Try.func60, Try.ntmps60
    go_upto_region 2 with (fail)
    go_region
    go_upto_region 5 with (fail)
    refine wp_world (IS W #[.int .i64 7, .int .i64 n, .string ⟨s.toArray⟩, .slice A len c] #[.int .i64 7, .int .i64 0, .string ⟨#[]⟩, .slice A len c]) (IS.new W _ _) ?_
    intro V1 hV1
    have t0 := hV1.t.cell 0
    have t1 := hV1.t.cell 1
    have t2 := hV1.t.cell 2
    have t3 := hV1.t.cell 3
    have w0 := hV1.w.cell 0
    have f0 := hV1.w.frozen 0
    have w1 := hV1.w.cell 1
    have f1 := hV1.w.frozen 1
    have w2 := hV1.w.cell 2
    have f2 := hV1.w.frozen 2
    go_upto_region 20 with (fail)
    clear t0 t1 t2 t3 w0 w1 w2 f0 f1 f2
    have hV2 := hV1
    have t1 := hV2.t.cell 1
    have t2 := hV2.t.cell 2
    have t3 := hV2.t.cell 3
    have w1 := hV2.w.cell 1
    have w2 := hV2.w.cell 2
    go_wp2_with (fail)
    go_ret
    exact ⟨by rw [HF.out]; rfl, hV2.bel⟩
  · skip
    have HF := Lib.hid (show headB 7 n s len = false by simp [headB, h0, h1, h2])
    have d0 : ((len : Int) == 0) = true := by simp; omega
    have d1 : (n == 0) = true := by simp; omega
    have d2 : (s == []) = false := by simp [h2]
    have d3 : s.isEmpty = false := by simp [h2]
    have d4 : (!s.isEmpty) = true := by simp [h2]
    clear h0 h1 h2
    go_enter Try.func60, Try.ntmps60
    go_upto_region 2 with (fail)
    go_region
    go_upto_region 5 with (fail)
    refine wp_world (IS W #[.int .i64 7, .int .i64 n, .string ⟨s.toArray⟩, .slice A len c] #[.int .i64 7, .int .i64 0, .string ⟨#[]⟩, .slice A len c]) (IS.new W _ _) ?_
    intro V1 hV1
    have t0 := hV1.t.cell 0
    have t1 := hV1.t.cell 1
    have t2 := hV1.t.cell 2
    have t3 := hV1.t.cell 3
    have w0 := hV1.w.cell 0
    have f0 := hV1.w.frozen 0
    have w1 := hV1.w.cell 1
    have f1 := hV1.w.frozen 1
    have w2 := hV1.w.cell 2
    have f2 := hV1.w.frozen 2
    go_upto_region 20 with (fail)
    clear t0 t1 t2 t3 w0 w1 w2 f0 f1 f2
    have hV2 := hV1
    have t1 := hV2.t.cell 1
    have t2 := hV2.t.cell 2
    have t3 := hV2.t.cell 3
    have w1 := hV2.w.cell 1
    have w2 := hV2.w.cell 2
    go_wp2_with (fail)
    go_ret
    exact ⟨by rw [HF.out]; rfl, hV2.bel⟩
  · skip
    have HF := Lib.hid (show headB 7 n s len = true by simp [headB, h0, h1, h2])
    have d0 : ((len : Int) == 0) = true := by simp; omega
    have d1 : (n == 0) = true := by simp; omega
    subst h2
    clear h0 h1
    go_enter Try.func60, Try.ntmps60
    go_upto_region 2 with (fail)
    go_region
    go_upto_region 5 with (fail)
    refine wp_world (IS W #[.int .i64 7, .int .i64 n, .string ⟨[].toArray⟩, .slice A len c] #[.int .i64 7, .int .i64 0, .string ⟨#[]⟩, .slice A len c]) (IS.new W _ _) ?_
    intro V1 hV1
    have t0 := hV1.t.cell 0
    have t1 := hV1.t.cell 1
    have t2 := hV1.t.cell 2
    have t3 := hV1.t.cell 3
    have w0 := hV1.w.cell 0
    have f0 := hV1.w.frozen 0
    have w1 := hV1.w.cell 1
    have f1 := hV1.w.frozen 1
    have w2 := hV1.w.cell 2
    have f2 := hV1.w.frozen 2
    go_upto_region 20 with (fail)
    clear t0 t1 t2 t3 w0 w1 w2 f0 f1 f2
    have hV2 := hV1
    have t1 := hV2.t.cell 1
    have t2 := hV2.t.cell 2
    have t3 := hV2.t.cell 3
    have w1 := hV2.w.cell 1
    have w2 := hV2.w.cell 2
    go_wp2_with (go_at_call 58; refine (HCT.out _ hV2.bel).mono ?_; rintro e w5 ⟨rfl, hb5⟩)
    go_ret
    exact ⟨by rw [HF.out]; simp, below_step hV2.bel hb5⟩

set_option maxRecDepth 100000 in
set_option maxHeartbeats 4000000 in
theorem is_k8 (n : Int) (s : List UInt8) (A : Option Addr) (len c : Nat) (b : Bool) (W : World) (hlc : len ≤ 9223372036854775807) (hsl : s.length ≤ 9223372036854775807)
    (hct : ∀ V, Below W.heap.size W V → Calls Try.prog 58 #[.slice A len c, .func (.func 89) #[] #[]] V fun e w' => e = .returned (.bool (!b)) ∧ Below V.heap.size V w') :
    Calls Try.prog 60 #[.agg #[.int .i64 8, .int .i64 n, .string ⟨s.toArray⟩, .slice A len c]] W (IsEnds W 8 n s len b) := by
  have HCT := Lib.hid hct
  clear hct
  have hway : (¬ len = 2) ∨ (len = 2 ∧ ¬ n = 0) ∨ (len = 2 ∧ n = 0 ∧ ¬ s = []) ∨ (len = 2 ∧ n = 0 ∧ s = []) := by
    by_cases g0 : len = 2
    rotate_left
    · exact .inl (g0)
    by_cases g1 : n = 0
    rotate_left
    · exact .inr (.inl (⟨g0, g1⟩))
    by_cases g2 : s = []
    rotate_left
    · exact .inr (.inr (.inl (⟨g0, g1, g2⟩)))
    exact .inr (.inr (.inr (⟨g0, g1, g2⟩)))
  rcases hway with h0 | ⟨h0, h1⟩ | ⟨h0, h1, h2⟩ | ⟨h0, h1, h2⟩
  · skip
    have HF := Lib.hid (show headB 8 n s len = false by simp [headB, h0])
    have d0 : ((len : Int) == 2) = false := by simp; omega
    clear h0
    go_enter Try.func60, Try.ntmps60
    go_upto_region 2 with (fail)
    go_region
    go_upto_region 5 with (fail)
    refine wp_world (IS W #[.int .i64 8, .int .i64 n, .string ⟨s.toArray⟩, .slice A len c] #[.int .i64 8, .int .i64 0, .string ⟨#[]⟩, .slice A len c]) (IS.new W _ _) ?_
    intro V1 hV1
    have t0 := hV1.t.cell 0
    have t1 := hV1.t.cell 1
    have t2 := hV1.t.cell 2
    have t3 := hV1.t.cell 3
    have w0 := hV1.w.cell 0
    have f0 := hV1.w.frozen 0
    have w1 := hV1.w.cell 1
    have f1 := hV1.w.frozen 1
    have w2 := hV1.w.cell 2
    have f2 := hV1.w.frozen 2
    go_upto_region 20 with (fail)
    clear t0 t1 t2 t3 w0 w1 w2 f0 f1 f2
    have hV2 := hV1
    have t1 := hV2.t.cell 1
    have t2 := hV2.t.cell 2
    have t3 := hV2.t.cell 3
    have w1 := hV2.w.cell 1
    have w2 := hV2.w.cell 2
    go_wp2_with (fail)
    go_ret
    exact ⟨by rw [HF.out]; rfl, hV2.bel⟩
  · skip
    have HF := Lib.hid (show headB 8 n s len = false by simp [headB, h0, h1])
    have d0 : ((len : Int) == 2) = true := by simp; omega
    have d1 : (n == 0) = false := by simp; omega
    clear h0 h1
    go_enter Try.func60, Try.ntmps60
    go_upto_region 2 with (fail)
    go_region
    go_upto_region 5 with (fail)
    refine wp_world (IS W #[.int .i64 8, .int .i64 n, .string ⟨s.toArray⟩, .slice A len c] #[.int .i64 8, .int .i64 0, .string ⟨#[]⟩, .slice A len c]) (IS.new W _ _) ?_
    intro V1 hV1
    have t0 := hV1.t.cell 0
    have t1 := hV1.t.cell 1
    have t2 := hV1.t.cell 2
    have t3 := hV1.t.cell 3
    have w0 := hV1.w.cell 0
    have f0 := hV1.w.frozen 0
    have w1 := hV1.w.cell 1
    have f1 := hV1.w.frozen 1
    have w2 := hV1.w.cell 2
    have f2 := hV1.w.frozen 2
    go_upto_region 20 with (fail)
    clear t0 t1 t2 t3 w0 w1 w2 f0 f1 f2
    have hV2 := hV1
    have t1 := hV2.t.cell 1
    have t2 := hV2.t.cell 2
    have t3 := hV2.t.cell 3
    have w1 := hV2.w.cell 1
    have w2 := hV2.w.cell 2
    go_wp2_with (fail)
    go_ret
    exact ⟨by rw [HF.out]; rfl, hV2.bel⟩
  · skip
    have HF := Lib.hid (show headB 8 n s len = false by simp [headB, h0, h1, h2])
    have d0 : ((len : Int) == 2) = true := by simp; omega
    have d1 : (n == 0) = true := by simp; omega
    have d2 : (s == []) = false := by simp [h2]
    have d3 : s.isEmpty = false := by simp [h2]
    have d4 : (!s.isEmpty) = true := by simp [h2]
    clear h0 h1 h2
    go_enter Try.func60, Try.ntmps60
    go_upto_region 2 with (fail)
    go_region
    go_upto_region 5 with (fail)
    refine wp_world (IS W #[.int .i64 8, .int .i64 n, .string ⟨s.toArray⟩, .slice A len c] #[.int .i64 8, .int .i64 0, .string ⟨#[]⟩, .slice A len c]) (IS.new W _ _) ?_
    intro V1 hV1
    have t0 := hV1.t.cell 0
    have t1 := hV1.t.cell 1
    have t2 := hV1.t.cell 2
    have t3 := hV1.t.cell 3
    have w0 := hV1.w.cell 0
    have f0 := hV1.w.frozen 0
    have w1 := hV1.w.cell 1
    have f1 := hV1.w.frozen 1
    have w2 := hV1.w.cell 2
    have f2 := hV1.w.frozen 2
    go_upto_region 20 with (fail)
    clear t0 t1 t2 t3 w0 w1 w2 f0 f1 f2
    have hV2 := hV1
    have t1 := hV2.t.cell 1
    have t2 := hV2.t.cell 2
    have t3 := hV2.t.cell 3
    have w1 := hV2.w.cell 1
    have w2 := hV2.w.cell 2
    go_wp2_with (fail)
    go_ret
    exact ⟨by rw [HF.out]; rfl, hV2.bel⟩
  · skip
    have HF := Lib.hid (show headB 8 n s len = true by simp [headB, h0, h1, h2])
    have d0 : ((len : Int) == 2) = true := by simp; omega
    have d1 : (n == 0) = true := by simp; omega
    subst h2
    clear h0 h1
    go_enter Try.func60, Try.ntmps60
    go_upto_region 2 with (fail)
    go_region
    go_upto_region 5 with (fail)
    refine wp_world (IS W #[.int .i64 8, .int .i64 n, .string ⟨[].toArray⟩, .slice A len c] #[.int .i64 8, .int .i64 0, .string ⟨#[]⟩, .slice A len c]) (IS.new W _ _) ?_
    intro V1 hV1
    have t0 := hV1.t.cell 0
    have t1 := hV1.t.cell 1
    have t2 := hV1.t.cell 2
    have t3 := hV1.t.cell 3
    have w0 := hV1.w.cell 0
    have f0 := hV1.w.frozen 0
    have w1 := hV1.w.cell 1
    have f1 := hV1.w.frozen 1
    have w2 := hV1.w.cell 2
    have f2 := hV1.w.frozen 2
    go_upto_region 20 with (fail)
    clear t0 t1 t2 t3 w0 w1 w2 f0 f1 f2
    have hV2 := hV1
    have t1 := hV2.t.cell 1
    have t2 := hV2.t.cell 2
    have t3 := hV2.t.cell 3
    have w1 := hV2.w.cell 1
    have w2 := hV2.w.cell 2
    go_wp2_with (go_at_call 58; refine (HCT.out _ hV2.bel).mono ?_; rintro e w5 ⟨rfl, hb5⟩)
    go_ret
    exact ⟨by rw [HF.out]; simp, below_step hV2.bel hb5⟩
end Go.Proofs.Ytefnjplfemgibaa
