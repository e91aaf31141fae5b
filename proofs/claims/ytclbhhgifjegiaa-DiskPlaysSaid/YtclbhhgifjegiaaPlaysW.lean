/- The walk of the statement DiskPlays: where nothing is played. -/
import Derived.Test.YtclbhhgifjegiaaPlaysL
import Derived.Deep.DeepCutAuto
import Derived.Deep.CutBlock
namespace Go.Proofs.Ytclbhhgifjegiaa
open Go.RowKit
set_option linter.unusedVariables false
attribute [local go_sem ↓] Go.wp_at_zero Go.wp_at_succ

set_option maxRecDepth 100000 in
set_option maxHeartbeats 2000000 in
theorem plays_huge (blocks size : Int) (A : Option Addr) (l : List ActV) (k c : Nat) (w : World) (hl : l.length = k) (hk : k ≤ 9223372036854775807) (hr : RdA w A l) (ho : ∀ a ∈ l, a.Ok) (hh : hugeB l = true) :
    Calls Try.prog 6 #[.int .i64 blocks, .int .i64 size, .slice A k c] w (Yes w) := by
  have HH := Lib.hid (huge_any A l k c w hl hk hr ho)
  rw [hh] at HH
  clear hl ho hh hr
  go_enter Try.func6, Try.ntmps6
  go_wp2_with (first
    | (go_at_call 8; refine HH.out.mono ?_; rintro e w' ⟨rfl, rfl⟩)
    | (go_at_call 9; refine (live_any w).mono ?_; rintro e w1 ⟨rfl, hb1⟩))
  go_ret
  exact ⟨rfl, hb1⟩

set_option maxRecDepth 100000 in
set_option maxHeartbeats 4000000 in
theorem plays_bad (blocks size : Int) (A : Option Addr) (l : List ActV) (k c : Nat) (w : World) (hl : l.length = k) (hk : k ≤ 9223372036854775807) (hr : RdA w A l) (ho : ∀ a ∈ l, a.Ok) (hh : hugeB l = false) (hbad : newBad blocks size) :
    Calls Try.prog 6 #[.int .i64 blocks, .int .i64 size, .slice A k c] w (Yes w) := by
  have HH := Lib.hid (huge_any A l k c w hl hk hr ho)
  rw [hh] at HH
  have hk150 := huge_no hl hh
  have HB := Lib.hid hbad
  clear hl ho hh hr hbad
  go_enter Try.func6, Try.ntmps6
  go_upto_region 7 with (first
    | (go_at_call 8; refine HH.out.mono ?_; rintro e w' ⟨rfl, rfl⟩)
    | (go_at_call 10; refine (new_bad _ _ _ HB.out).mono ?_; rintro e w' ⟨rfl, rfl⟩)
    | (go_at_call 18; refine (rnew_bad _ _ _ HB.out).mono ?_; rintro e w' ⟨rfl, rfl⟩)
    | (go_at_call 11; refine (num_any _ _).mono ?_; rintro e w' ⟨rfl, rfl⟩)
    | (go_at_call 9; refine (live_any w).mono ?_; rintro e w1 ⟨rfl, hb1⟩))
  all_goals first
    | (go_ret; exact ⟨rfl, hb1⟩)
    | (go_wp2
       refine wp_loop_rounds 1 ?_
       rw [rounds_succ]
       go_wp2_with (go_at_call 9; refine (live_any w).mono ?_; rintro e w1 ⟨rfl, hb1⟩)
       all_goals (go_ret; exact ⟨rfl, hb1⟩))
end Go.Proofs.Ytclbhhgifjegiaa
