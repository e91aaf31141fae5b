/- Arith (layer 14): the makers of closures. Written by argenl.py. -/
import Derived.Test.YtbpnlpjbjmojfaaGreatArJ
namespace Go.Proofs.YtbpnlpjbjmojfaaGreat
open Go.RowKit
set_option linter.unusedVariables false
section
variable {W : World}

set_option maxRecDepth 100000 in
set_option maxHeartbeats 1000000 in
theorem numbers_m (f : Fn) (ca cb : Array Value) : Calls Tryz.prog 51 #[.func f ca cb] W fun e w' => ∃ g, e = .returned (.func (.func 92) #[] #[.pointer (some ⟨g, 0, none⟩)]) ∧ Below W.heap.size W w' ∧ W.heap.size ≤ g ∧ Blk w' g 73 #[.func f ca cb] := by
  go_enter Tryz.func51, Tryz.ntmps51
  go_wp2
  exact bodyPost_ret (v := .func (.func 92) #[] #[.pointer (some ⟨W.heap.size, 0, none⟩)]) (by simp [results, Tryz.results51, go_sem]) rfl ⟨_, rfl, below_alloc _ _, Nat.le_refl _, Blk.new _ _ _⟩
set_option maxRecDepth 100000 in
set_option maxHeartbeats 1000000 in
theorem order_m (f : Fn) (ca cb : Array Value) : Calls Tryz.prog 58 #[.func f ca cb] W fun e w' => ∃ g, e = .returned (.func (.func 96) #[] #[.pointer (some ⟨g, 0, none⟩)]) ∧ Below W.heap.size W w' ∧ W.heap.size ≤ g ∧ Blk w' g 77 #[.func f ca cb] := by
  go_enter Tryz.func58, Tryz.ntmps58
  go_wp2
  exact bodyPost_ret (v := .func (.func 96) #[] #[.pointer (some ⟨W.heap.size, 0, none⟩)]) (by simp [results, Tryz.results58, go_sem]) rfl ⟨_, rfl, below_alloc _ _, Nat.le_refl _, Blk.new _ _ _⟩
set_option maxRecDepth 100000 in
set_option maxHeartbeats 1000000 in
theorem truths_m (f : Fn) (ca cb : Array Value) : Calls Tryz.prog 65 #[.func f ca cb] W fun e w' => ∃ g, e = .returned (.func (.func 98) #[] #[.pointer (some ⟨g, 0, none⟩)]) ∧ Below W.heap.size W w' ∧ W.heap.size ≤ g ∧ Blk w' g 79 #[.func f ca cb] := by
  go_enter Tryz.func65, Tryz.ntmps65
  go_wp2
  exact bodyPost_ret (v := .func (.func 98) #[] #[.pointer (some ⟨W.heap.size, 0, none⟩)]) (by simp [results, Tryz.results65, go_sem]) rfl ⟨_, rfl, below_alloc _ _, Nat.le_refl _, Blk.new _ _ _⟩
set_option maxRecDepth 100000 in
set_option maxHeartbeats 1000000 in
theorem list_m (f : Fn) (ca cb : Array Value) : Calls Tryz.prog 46 #[.func f ca cb] W fun e w' => ∃ g, e = .returned (.func (.func 91) #[] #[.pointer (some ⟨g, 0, none⟩)]) ∧ Below W.heap.size W w' ∧ W.heap.size ≤ g ∧ Blk w' g 70 #[.func f ca cb] := by
  go_enter Tryz.func46, Tryz.ntmps46
  go_wp2
  exact bodyPost_ret (v := .func (.func 91) #[] #[.pointer (some ⟨W.heap.size, 0, none⟩)]) (by simp [results, Tryz.results46, go_sem]) rfl ⟨_, rfl, below_alloc _ _, Nat.le_refl _, Blk.new _ _ _⟩
set_option maxRecDepth 100000 in
set_option maxHeartbeats 1000000 in
theorem kind_m (A : Option Addr) (m c : Nat) : Calls Tryz.prog 38 #[.slice A m c] W fun e w' => ∃ g, e = .returned (.func (.func 86) #[] #[.pointer (some ⟨g, 0, none⟩)]) ∧ Below W.heap.size W w' ∧ W.heap.size ≤ g ∧ Blk w' g 89 #[.slice A m c] := by
  go_enter Tryz.func38, Tryz.ntmps38
  go_wp2
  exact bodyPost_ret (v := .func (.func 86) #[] #[.pointer (some ⟨W.heap.size, 0, none⟩)]) (by simp [results, Tryz.results38, go_sem]) rfl ⟨_, rfl, below_alloc _ _, Nat.le_refl _, Blk.new _ _ _⟩
set_option maxRecDepth 100000 in
set_option maxHeartbeats 1000000 in
theorem of_m (k : Int) (f : Fn) (ca cb : Array Value) : Calls Tryz.prog 39 #[.int .i64 k, .func f ca cb] W fun e w' => ∃ g1 g, e = .returned (.func (.func 88) #[] #[.pointer (some ⟨g1, 0, none⟩), .pointer (some ⟨g, 0, none⟩)]) ∧ Below W.heap.size W w' ∧ W.heap.size ≤ g1 ∧ W.heap.size ≤ g ∧ Blk w' g1 3 #[.int .i64 k] ∧ Blk w' g 42 #[.func f ca cb] := by
  go_enter Tryz.func39, Tryz.ntmps39
  go_wp2
  exact bodyPost_ret (v := .func (.func 88) #[] #[.pointer (some ⟨W.heap.size, 0, none⟩), .pointer (some ⟨W.heap.size + 1, 0, none⟩)]) (by simp [results, Tryz.results39, go_sem]) rfl ⟨_, _, rfl, below_step (below_alloc _ _) (below_alloc _ _), Nat.le_refl _, by omega, (Blk.new _ _ _).alloc _, Blk.newAt (by simp)⟩
set_option maxRecDepth 100000 in
set_option maxHeartbeats 1000000 in
theorem parts_m (f : Fn) (ca cb : Array Value) : Calls Tryz.prog 55 #[.func f ca cb] W fun e w' => ∃ g1 g, e = .returned (.func (.func 92) #[] #[.pointer (some ⟨g, 0, none⟩)]) ∧ Below W.heap.size W w' ∧ W.heap.size ≤ g1 ∧ W.heap.size ≤ g ∧ Blk w' g1 75 #[.func f ca cb] ∧ Blk w' g 73 #[.func (.func 95) #[] #[.pointer (some ⟨g1, 0, none⟩)]] := by
  go_enter Tryz.func55, Tryz.ntmps55
  go_wp2_with (go_at_call 51; refine (numbers_m (.func 95) #[] #[.pointer (some ⟨W.heap.size, 0, none⟩)]).mono ?_; rintro e w1 ⟨g, rfl, hb1, hg1, hB1⟩)
  have hb0 := below_alloc W (.cells #[.func f ca cb] 75)
  refine bodyPost_ret (v := .func (.func 92) #[] #[.pointer (some ⟨g, 0, none⟩)]) (by simp [results, Tryz.results55, go_sem]) rfl ⟨_, _, rfl, hb0.trans (hb1.mono hb0.size), Nat.le_refl _, by simp at hg1; omega, (Blk.new _ _ _).keep hb1, hB1⟩
end
end Go.Proofs.YtbpnlpjbjmojfaaGreat
