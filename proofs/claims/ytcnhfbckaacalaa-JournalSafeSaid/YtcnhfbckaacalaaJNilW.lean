/- The walk of the statement JournalNil. -/
import Derived.Test.YtcnhfbckaacalaaJLive
namespace Go.Proofs.Ytcnhfbckaacalaa
open Go.RowKit
set_option linter.unusedVariables false

theorem live_from {w W : World} (h : Below w.heap.size w W) : Calls Try.prog 9 #[] W (Yes w) :=
  (live_any W).mono fun e w' ⟨he, hb⟩ => ⟨he, below_step h hb⟩
set_option maxRecDepth 100000 in
set_option maxHeartbeats 1000000 in
theorem nil_any (fr ln e : Int) (A : Option Addr) (n c : Nat) (w : World) :
    Calls Try.prog 6 #[.agg #[.int .i64 fr, .int .i64 ln], .slice A n c, .int .i64 e] w (Yes w) := by
  have hB : Blk (w.alloc (.cells #[.int .i64 fr, .int .i64 ln] 34)) w.heap.size 34 #[.int .i64 fr, .int .i64 ln] := Blk.new _ _ _
  have e0 : (w.alloc (.cells #[.int .i64 fr, .int .i64 ln] 34)).cell? ⟨w.heap.size, 0, none⟩ = some (.int .i64 fr) := hB.cell 0
  have e1 : (w.alloc (.cells #[.int .i64 fr, .int .i64 ln] 34)).cell? ⟨w.heap.size, 1, none⟩ = some (.int .i64 ln) := hB.cell 1
  have HBL := Lib.hid (below_alloc w (.cells #[.int .i64 fr, .int .i64 ln] 34))
  clear hB
  by_cases h : 20000 < n
  · have hd : decide ((20000 : Int) < (n : Int)) = true := by simp; omega
    clear h
    go_enter Try.func6, Try.ntmps6
    go_wp2_with (go_at_call 9; refine (live_from HBL.out).mono ?_; rintro r w1 ⟨rfl, hb1⟩)
    go_ret
    exact ⟨rfl, hb1⟩
  · have hd : decide ((20000 : Int) < (n : Int)) = false := by simp; omega
    clear h
    go_enter Try.func6, Try.ntmps6
    go_wp2_with (first
      | (go_at_call 12; refine (jopen_nil _ _ _ _).mono ?_; rintro r w2 ⟨rfl, hb2⟩; have hbw := below_step HBL.out hb2)
      | (go_at_call 11; refine (num_any _ _).mono ?_; rintro e w' ⟨rfl, rfl⟩)
      | (go_at_call 17; refine (jappend_nil _ _ _ _).mono ?_; rintro e w' ⟨rfl, rfl⟩)
      | (go_at_call 19; refine (jflush_nil _).mono ?_; rintro e w' ⟨rfl, rfl⟩)
      | (go_at_call 25; refine (jbegin_nil _ _).mono ?_; rintro e w' ⟨rfl, rfl⟩)
      | (go_at_call 13; refine (jroom_nil _).mono ?_; rintro e w' ⟨rfl, rfl⟩)
      | (go_at_call 15; refine (jused_nil _).mono ?_; rintro e w' ⟨rfl, rfl⟩)
      | (go_at_call 18; refine (jsafe_nil _).mono ?_; rintro e w' ⟨rfl, rfl⟩)
      | (go_at_call 20; refine (jrecords_nil _).mono ?_; rintro e w' ⟨rfl, rfl⟩)
      | (go_at_call 9; refine (live_from hbw).mono ?_; rintro r w1 ⟨rfl, hb1⟩))
    go_ret
    exact ⟨rfl, hb1⟩
end Go.Proofs.Ytcnhfbckaacalaa
