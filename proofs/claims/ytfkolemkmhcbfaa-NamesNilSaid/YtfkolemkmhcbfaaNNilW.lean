/- The walk of the statement NamesNil. -/
import Derived.Test.YtfkolemkmhcbfaaNaE
namespace Go.Proofs.Ytfkolemkmhcbfaa
open Go.RowKit
set_option linter.unusedVariables false
set_option maxRecDepth 100000 in
set_option maxHeartbeats 2000000 in
theorem namesNil_any (s : List UInt8) (p : Int) (w : World) : Calls Try.prog 5 #[.string ⟨s.toArray⟩, .int .i64 p] w (Yes w) := by
  have HLV := Lib.hid (live_any w)
  by_cases hs : 20000 < s.length
  · have d0 : decide ((20000 : Int) < (s.length : Int)) = true := by simp; omega
    go_enter Try.func5, Try.ntmps5
    go_wp2_with (go_at_call 8; refine HLV.out.mono ?_; rintro e w' ⟨rfl, hb⟩)
    go_ret
    exact ⟨rfl, hb⟩
  · have d0 : decide ((20000 : Int) < (s.length : Int)) = false := by simp; omega
    go_enter Try.func5, Try.ntmps5
    go_wp2_with (first
      | (go_at_call 11; refine (num_any _ _).mono ?_; rintro e w' ⟨rfl, rfl⟩)
      | (go_at_call 17; refine (nfind_nil _ _).mono ?_; rintro e w' ⟨rfl, rfl⟩)
      | (go_at_call 19; refine (nof_nil _ _).mono ?_; rintro e w' ⟨rfl, rfl⟩)
      | (go_at_call 12; refine (nadd_nil _ _ _).mono ?_; rintro e w' ⟨rfl, rfl⟩)
      | (go_at_call 13; refine (nremove_nil _ _).mono ?_; rintro e w' ⟨rfl, rfl⟩)
      | (go_at_call 15; refine (ndrop_nil _ _).mono ?_; rintro e w' ⟨rfl, rfl⟩)
      | (go_at_call 22; refine (nall_nil _).mono ?_; rintro e w' ⟨rfl, rfl⟩)
      | (go_at_call 8; refine HLV.out.mono ?_; rintro e w' ⟨rfl, hb⟩))
    go_ret
    exact ⟨rfl, hb⟩
end Go.Proofs.Ytfkolemkmhcbfaa
