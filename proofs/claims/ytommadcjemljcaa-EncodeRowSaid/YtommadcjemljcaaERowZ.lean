/- EncodeRow at every input. -/
import Derived.Test.YtommadcjemljcaaERowW
namespace Go.Proofs.Ytommadcjemljcaa
open Go.RowKit
set_option linter.unusedVariables false

set_option maxRecDepth 100000 in
set_option maxHeartbeats 800000 in
theorem erow_any (l m : List TV) (A A2 : Option Addr) (len c n2 c2 : Nat) (w : World) (hlen : l.length = len) (hnm : TV.namedL l) (hR : RdM w A c l) (hlen2 : m.length = n2) (hnm2 : TV.namedL m) (hR2 : RdM w A2 c2 m) :
    Calls Try.prog 5 #[.slice A len c, .slice A2 n2 c2] w (Yes w) := by
  have hlc : len ≤ 9223372036854775807 := by have := hR.1; have := hR.2.1; omega
  have hlc2 : n2 ≤ 9223372036854775807 := by have := hR2.1; have := hR2.2.1; omega
  by_cases h1 : 100 < len
  · have hd5 : decide (100 < len) = true := by simpa using h1
    clear hlen hnm hR hlen2 hnm2 hR2
    go_enter Try.func5, Try.ntmps5
    go_wp2_with (go_at_call 7; refine (live_any w).mono ?_; rintro e w9 ⟨rfl, hb9⟩)
    go_ret
    exact ⟨rfl, hb9⟩
  have hd5 : decide (100 < len) = false := by simpa using h1
  by_cases h2 : 100 < n2
  · have hd6 : decide (100 < n2) = true := by simpa using h2
    clear hlen hnm hR hlen2 hnm2 hR2
    go_enter Try.func5, Try.ntmps5
    go_wp2_with (go_at_call 7; refine (live_any w).mono ?_; rintro e w9 ⟨rfl, hb9⟩)
    go_ret
    exact ⟨rfl, hb9⟩
  have hd6 : decide (100 < n2) = false := by simpa using h2
  by_cases hk : checkP l = 0
  rotate_left
  · obtain ⟨ck, hcke⟩ : ∃ ck, checkP l = ck := ⟨_, rfl⟩
    have HC := Lib.hid (rcheck_num hlen hnm hR hcke)
    rw [hcke] at hk
    have hd : ((ck : Int) != 0) = true := by rw [bne_iff_ne]; omega
    clear hlen hnm hR hlen2 hnm2 hR2 hk hcke
    go_enter Try.func5, Try.ntmps5
    go_wp2_with (first
      | (go_at_call 14; (with_reducible refine HC.out.mono ?_); rintro r V1 ⟨rfl, hb1⟩)
      | (go_at_call 7; refine (live_from hb1).mono ?_; rintro e w9 ⟨rfl, hb9⟩))
    go_ret
    exact ⟨rfl, hb9⟩
  by_cases hk2 : checkP m = 0
  rotate_left
  · obtain ⟨ck, hcke⟩ : ∃ ck, checkP m = ck := ⟨_, rfl⟩
    have HC := Lib.hid (rcheck_num hlen hnm hR hk)
    have HC2 : Hid (∀ V, Below w.heap.size w V → Calls Try.prog 14 #[.slice A2 n2 c2] V fun e w' => e = .returned (.int .i64 (ck : Nat)) ∧ Below V.heap.size V w') := fun V hV => rcheck_num hlen2 hnm2 (hR2.below hV) hcke
    rw [hcke] at hk2
    have hd : ((ck : Int) != 0) = true := by rw [bne_iff_ne]; omega
    clear hlen hnm hR hlen2 hnm2 hR2 hk hk2 hcke
    go_enter Try.func5, Try.ntmps5
    go_wp2_with (first
      | (go_at_call 14; (with_reducible refine HC.out.mono ?_); rintro r V1 ⟨rfl, hb1⟩)
      | (go_at_call 14; (with_reducible refine (HC2.out _ hb1).mono ?_); rintro r V2 ⟨rfl, hb2⟩)
      | (go_at_call 7; refine (live_from (below_step hb1 hb2)).mono ?_; rintro e w9 ⟨rfl, hb9⟩))
    go_ret
    exact ⟨rfl, hb9⟩
  exact erow_in l m A A2 len c n2 c2 w hlen hnm hR (by omega) hlen2 hnm2 hR2 (by omega) hk hk2
end Go.Proofs.Ytommadcjemljcaa
