/- The walk of the statement DiskNil. -/
import Derived.Test.YtclbhhgifjegiaaDLive
namespace Go.Proofs.Ytclbhhgifjegiaa
open Go.RowKit
set_option linter.unusedVariables false

set_option maxHeartbeats 400000 in
theorem cut_nil (a : Int) (w : World) : Calls Try.prog 12 #[.pointer none, .int .i64 a] w fun e w' => e = .returned (.tuple #[]) ∧ w = w' := by
  go_enter Try.func12, Try.ntmps12
  go_wp2
  go_end0
  exact ⟨rfl, rfl⟩
set_option maxHeartbeats 400000 in
theorem restore_nil (w : World) : Calls Try.prog 14 #[.pointer none] w fun e w' => e = .returned (.tuple #[]) ∧ w = w' := by
  go_enter Try.func14, Try.ntmps14
  go_wp2
  go_end0
  exact ⟨rfl, rfl⟩
set_option maxHeartbeats 400000 in
theorem read_nil (n : Int) (w : World) : Calls Try.prog 15 #[.pointer none, .int .i64 n] w fun e w' => e = .returned (.tuple #[.slice none 0 0, .int .i64 7]) ∧ w = w' := by
  go_enter Try.func15, Try.ntmps15
  go_wp2
  go_ret2
  exact ⟨rfl, rfl⟩
set_option maxHeartbeats 400000 in
theorem log_nil (w : World) : Calls Try.prog 16 #[.pointer none] w fun e w' => e = .returned (.slice none 0 0) ∧ w = w' := by
  go_enter Try.func16, Try.ntmps16
  go_wp2
  go_ret
  exact ⟨rfl, rfl⟩
set_option maxHeartbeats 400000 in
theorem blocks_nil (w : World) : Calls Try.prog 25 #[.pointer none] w fun e w' => e = .returned (.int .i64 0) ∧ w = w' := by
  go_enter Try.func25, Try.ntmps25
  go_wp2
  go_ret
  exact ⟨rfl, rfl⟩
set_option maxHeartbeats 400000 in
theorem size_nil (w : World) : Calls Try.prog 26 #[.pointer none] w fun e w' => e = .returned (.int .i64 0) ∧ w = w' := by
  go_enter Try.func26, Try.ntmps26
  go_wp2
  go_ret
  exact ⟨rfl, rfl⟩
set_option maxHeartbeats 400000 in
theorem copy_nil (w : World) : Calls Try.prog 23 #[.pointer none] w fun e w' => e = .returned (.pointer none) ∧ w = w' := by
  go_enter Try.func23, Try.ntmps23
  go_wp2
  go_ret
  exact ⟨rfl, rfl⟩
set_option maxHeartbeats 400000 in
theorem write_nil {A : Option Addr} {ls : List (List UInt8)} {l : List UInt8} {m c : Nat} {n : Int} {w : World} (hf : ls.flatten = l) (hm : ls.length = m) (hm2 : m ≤ 65536) (hn : l.length ≤ 140737488351232) (hr : RdL w A ls) :
    Calls Try.prog 13 #[.pointer none, .int .i64 n, .slice A m c] w fun e w' => e = .returned (.int .i64 7) ∧ Below w.heap.size w w' := by
  have HC := Lib.hid (concat_is A ls l m c w hf hm hm2 hn hr)
  clear hf hm hr
  go_enter Try.func13, Try.ntmps13
  go_wp2_with (go_at_call 27; refine HC.out.mono ?_; rintro e w1 ⟨v, rfl, hown, hb1⟩)
  go_ret
  exact ⟨rfl, hb1⟩

theorem live_from {w W : World} (h : Below w.heap.size w W) : Calls Try.prog 9 #[] W (Yes w) :=
  (live_any W).mono fun e w' ⟨he, hb⟩ => ⟨he, below_step h hb⟩

set_option maxHeartbeats 600000 in
theorem nil_any (n : Int) (A : Option Addr) (k c : Nat) (l : List UInt8) (w : World) (hl : l.length = k) (hr : Rd w A l) :
    Calls Try.prog 7 #[.int .i64 n, .slice A k c] w (Yes w) := by
  by_cases h1 : 40000 < k
  · go_enter Try.func7, Try.ntmps7
    go_wp2_with (go_at_call 9; refine (live_from (Below.refl _ w)).mono ?_; rintro e w1 ⟨rfl, hb1⟩)
    go_ret
    exact ⟨rfl, hb1⟩
  · have HW := Lib.hid (write_nil (A := some ⟨w.heap.size, 0, none⟩) (ls := [l]) (l := l) (m := 1) (c := 1) (n := n) (w := w.alloc (.cells #[.slice A k c] 33)) (by simp) rfl (by omega) (by omega) (rdl_one hr hl))
    have HL := Lib.hid hl
    clear hl
    go_enter Try.func7, Try.ntmps7
    go_wp2_with (first
      | (go_at_call 12; refine (cut_nil _ _).mono ?_; rintro e w' ⟨rfl, rfl⟩)
      | (go_at_call 14; refine (restore_nil _).mono ?_; rintro e w' ⟨rfl, rfl⟩)
      | (go_at_call 15; refine (read_nil _ _).mono ?_; rintro e w' ⟨rfl, rfl⟩)
      | (go_at_call 13; refine HW.out.mono ?_; rintro e w1 ⟨rfl, hb1⟩)
      | (go_at_call 11; refine (num_any _ _).mono ?_; rintro e w' ⟨rfl, rfl⟩)
      | (go_at_call 17; refine (dead_nil _).mono ?_; rintro e w' ⟨rfl, rfl⟩)
      | (go_at_call 16; refine (log_nil _).mono ?_; rintro e w' ⟨rfl, rfl⟩)
      | (go_at_call 25; refine (blocks_nil _).mono ?_; rintro e w' ⟨rfl, rfl⟩)
      | (go_at_call 26; refine (size_nil _).mono ?_; rintro e w' ⟨rfl, rfl⟩)
      | (go_at_call 23; refine (copy_nil _).mono ?_; rintro e w' ⟨rfl, rfl⟩)
      | (go_at_call 9; refine (live_from ((below_alloc w _).trans (hb1.mono (by simp)))).mono ?_; rintro e w2 ⟨rfl, hb2⟩))
    go_ret
    exact ⟨rfl, hb2⟩
end Go.Proofs.Ytclbhhgifjegiaa
