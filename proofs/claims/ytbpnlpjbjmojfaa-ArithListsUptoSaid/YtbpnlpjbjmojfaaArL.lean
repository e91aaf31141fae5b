/- Arith (layer 14): the makers of closures. Written by argenl.py. -/
import Derived.Test.YtbpnlpjbjmojfaaArJ
namespace Go.Proofs.Ytbpnlpjbjmojfaa
open Go.RowKit
set_option linter.unusedVariables false
section
variable {W : World}

set_option maxRecDepth 100000 in
set_option maxHeartbeats 1000000 in
theorem numbers_m (f : Fn) (ca cb : Array Value) : Calls Try.prog 53 #[.func f ca cb] W fun e w' => ∃ g, e = .returned (.func (.func 86) #[] #[.pointer (some ⟨g, 0, none⟩)]) ∧ Below W.heap.size W w' ∧ W.heap.size ≤ g ∧ Blk w' g 75 #[.func f ca cb] := by
  go_enter Try.func53, Try.ntmps53
  go_wp2
  exact bodyPost_ret (v := .func (.func 86) #[] #[.pointer (some ⟨W.heap.size, 0, none⟩)]) (by simp [results, Try.results53, go_sem]) rfl ⟨_, rfl, below_alloc _ _, Nat.le_refl _, Blk.new _ _ _⟩
set_option maxRecDepth 100000 in
set_option maxHeartbeats 1000000 in
theorem order_m (f : Fn) (ca cb : Array Value) : Calls Try.prog 60 #[.func f ca cb] W fun e w' => ∃ g, e = .returned (.func (.func 90) #[] #[.pointer (some ⟨g, 0, none⟩)]) ∧ Below W.heap.size W w' ∧ W.heap.size ≤ g ∧ Blk w' g 79 #[.func f ca cb] := by
  go_enter Try.func60, Try.ntmps60
  go_wp2
  exact bodyPost_ret (v := .func (.func 90) #[] #[.pointer (some ⟨W.heap.size, 0, none⟩)]) (by simp [results, Try.results60, go_sem]) rfl ⟨_, rfl, below_alloc _ _, Nat.le_refl _, Blk.new _ _ _⟩
set_option maxRecDepth 100000 in
set_option maxHeartbeats 1000000 in
theorem truths_m (f : Fn) (ca cb : Array Value) : Calls Try.prog 67 #[.func f ca cb] W fun e w' => ∃ g, e = .returned (.func (.func 92) #[] #[.pointer (some ⟨g, 0, none⟩)]) ∧ Below W.heap.size W w' ∧ W.heap.size ≤ g ∧ Blk w' g 81 #[.func f ca cb] := by
  go_enter Try.func67, Try.ntmps67
  go_wp2
  exact bodyPost_ret (v := .func (.func 92) #[] #[.pointer (some ⟨W.heap.size, 0, none⟩)]) (by simp [results, Try.results67, go_sem]) rfl ⟨_, rfl, below_alloc _ _, Nat.le_refl _, Blk.new _ _ _⟩
set_option maxRecDepth 100000 in
set_option maxHeartbeats 1000000 in
theorem list_m (f : Fn) (ca cb : Array Value) : Calls Try.prog 48 #[.func f ca cb] W fun e w' => ∃ g, e = .returned (.func (.func 85) #[] #[.pointer (some ⟨g, 0, none⟩)]) ∧ Below W.heap.size W w' ∧ W.heap.size ≤ g ∧ Blk w' g 72 #[.func f ca cb] := by
  go_enter Try.func48, Try.ntmps48
  go_wp2
  exact bodyPost_ret (v := .func (.func 85) #[] #[.pointer (some ⟨W.heap.size, 0, none⟩)]) (by simp [results, Try.results48, go_sem]) rfl ⟨_, rfl, below_alloc _ _, Nat.le_refl _, Blk.new _ _ _⟩
set_option maxRecDepth 100000 in
set_option maxHeartbeats 1000000 in
theorem kind_m (A : Option Addr) (m c : Nat) : Calls Try.prog 40 #[.slice A m c] W fun e w' => ∃ g, e = .returned (.func (.func 80) #[] #[.pointer (some ⟨g, 0, none⟩)]) ∧ Below W.heap.size W w' ∧ W.heap.size ≤ g ∧ Blk w' g 89 #[.slice A m c] := by
  go_enter Try.func40, Try.ntmps40
  go_wp2
  exact bodyPost_ret (v := .func (.func 80) #[] #[.pointer (some ⟨W.heap.size, 0, none⟩)]) (by simp [results, Try.results40, go_sem]) rfl ⟨_, rfl, below_alloc _ _, Nat.le_refl _, Blk.new _ _ _⟩
set_option maxRecDepth 100000 in
set_option maxHeartbeats 1000000 in
theorem of_m (k : Int) (f : Fn) (ca cb : Array Value) : Calls Try.prog 41 #[.int .i64 k, .func f ca cb] W fun e w' => ∃ g1 g, e = .returned (.func (.func 82) #[] #[.pointer (some ⟨g1, 0, none⟩), .pointer (some ⟨g, 0, none⟩)]) ∧ Below W.heap.size W w' ∧ W.heap.size ≤ g1 ∧ W.heap.size ≤ g ∧ Blk w' g1 3 #[.int .i64 k] ∧ Blk w' g 47 #[.func f ca cb] := by
  go_enter Try.func41, Try.ntmps41
  go_wp2
  exact bodyPost_ret (v := .func (.func 82) #[] #[.pointer (some ⟨W.heap.size, 0, none⟩), .pointer (some ⟨W.heap.size + 1, 0, none⟩)]) (by simp [results, Try.results41, go_sem]) rfl ⟨_, _, rfl, below_step (below_alloc _ _) (below_alloc _ _), Nat.le_refl _, by omega, (Blk.new _ _ _).alloc _, Blk.newAt (by simp)⟩
set_option maxRecDepth 100000 in
set_option maxHeartbeats 1000000 in
theorem parts_m (f : Fn) (ca cb : Array Value) : Calls Try.prog 57 #[.func f ca cb] W fun e w' => ∃ g1 g, e = .returned (.func (.func 86) #[] #[.pointer (some ⟨g, 0, none⟩)]) ∧ Below W.heap.size W w' ∧ W.heap.size ≤ g1 ∧ W.heap.size ≤ g ∧ Blk w' g1 77 #[.func f ca cb] ∧ Blk w' g 75 #[.func (.func 89) #[] #[.pointer (some ⟨g1, 0, none⟩)]] := by
  go_enter Try.func57, Try.ntmps57
  go_wp2_with (go_at_call 53; refine (numbers_m (.func 89) #[] #[.pointer (some ⟨W.heap.size, 0, none⟩)]).mono ?_; rintro e w1 ⟨g, rfl, hb1, hg1, hB1⟩)
  have hb0 := below_alloc W (.cells #[.func f ca cb] 77)
  refine bodyPost_ret (v := .func (.func 86) #[] #[.pointer (some ⟨g, 0, none⟩)]) (by simp [results, Try.results57, go_sem]) rfl ⟨_, _, rfl, hb0.trans (hb1.mono hb0.size), Nat.le_refl _, by simp at hg1; omega, (Blk.new _ _ _).keep hb1, hB1⟩
end
end Go.Proofs.Ytbpnlpjbjmojfaa
