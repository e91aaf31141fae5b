/- The walk of the statement SpoolLeast. -/
import Derived.Test.YtdmehbejfigaiaaLeastFF
import Derived.Test.YtdmehbejfigaiaaLeastFT
import Derived.Test.YtdmehbejfigaiaaLeastTF
import Derived.Test.YtdmehbejfigaiaaLeastTT
namespace Go.Proofs.Ytdmehbejfigaiaa
open Go.RowKit
set_option linter.unusedVariables false

theorem least_in (A : Option Addr) (n c a b : Nat) (l : List UInt8) (w : World) (hl : l.length = n) (hnc : n ≤ c) (hcm : c ≤ 9223372036854775807) (hr : Rd w A l) (h1 : ¬ 20000 < n) (ha : a < 18446744073709551616) (hb : b < 18446744073709551616) :
    Calls Try.prog 3 #[.slice A n c, .int .u64 a, .int .u64 b] w (Yes w) := by
  by_cases c1 : ((⟨l, 0, 0, 0⟩ : TS).number false).2.fault = 0
  · by_cases c2 : (⟨l, 0, 0, 0⟩ : TS).int.2.fault = 0
    · exact least_tt A n c a b l w hl hnc hcm hr h1 ha hb c1 c2
    · exact least_tf A n c a b l w hl hnc hcm hr h1 ha hb c1 c2
  · by_cases c2 : (⟨l, 0, 0, 0⟩ : TS).int.2.fault = 0
    · exact least_ft A n c a b l w hl hnc hcm hr h1 ha hb c1 c2
    · exact least_ff A n c a b l w hl hnc hcm hr h1 ha hb c1 c2

set_option maxRecDepth 100000 in
set_option maxHeartbeats 1000000 in
theorem least_any (A : Option Addr) (n c a b : Nat) (l : List UInt8) (w : World) (hl : l.length = n) (hnc : n ≤ c) (hcm : c ≤ 9223372036854775807) (hr : Rd w A l) (ha : a < 18446744073709551616) (hb : b < 18446744073709551616) :
    Calls Try.prog 3 #[.slice A n c, .int .u64 a, .int .u64 b] w (Yes w) := by
  by_cases h1 : 20000 < n
  · have hd : decide (20000 < (n : Int)) = true := by simp; omega
    clear hl
    go_enter Try.func3, Try.ntmps3
    go_wp2_with (go_at_call 10; refine (live_any w).mono ?_; rintro e w11 ⟨rfl, hb11⟩)
    go_ret
    exact ⟨rfl, hb11⟩
  · exact least_in A n c a b l w hl hnc hcm hr h1 ha hb
end Go.Proofs.Ytdmehbejfigaiaa
