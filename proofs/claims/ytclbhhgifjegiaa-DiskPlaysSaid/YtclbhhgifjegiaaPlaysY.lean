/- DiskPlays at every input. -/
import Derived.Test.YtclbhhgifjegiaaPlaysX
namespace Go.Proofs.Ytclbhhgifjegiaa
open Go.RowKit
set_option linter.unusedVariables false

set_option maxRecDepth 100000 in
set_option maxHeartbeats 2000000 in
theorem plays_big (nb size : Nat) (A : Option Addr) (l : List ActV) (k c : Nat) (w : World) (hl : l.length = k) (hk : k ≤ 9223372036854775807) (hr : RdA w A l) (ho : ∀ a ∈ l, a.Ok) (hh : hugeB l = false) (h1 : 1 ≤ nb) (h2 : nb ≤ 16384) (h3 : 64 ≤ size) (h4 : size ≤ 4096) (h5 : 4096 < nb ∨ (nb ≤ 4096 ∧ 262144 < nb * size)) :
    Calls Try.prog 6 #[.int .i64 nb, .int .i64 size, .slice A k c] w (Yes w) := by
  have HH := Lib.hid (huge_any A l k c w hl hk hr ho)
  rw [hh] at HH
  clear hl ho hh hr
  have qm : ((nb : Int) * (size : Int)) = ((nb * size : Nat) : Int) := by simp
  have hmul : nb * size ≤ 67108864 := by have := Nat.mul_le_mul h2 h4; omega
  generalize nb * size = tot at *
  have d2 : decide (0 < (nb : Int)) = true := by simp; omega
  have d3 : decide (0 < (size : Int)) = true := by simp; omega
  have d4 : decide ((size : Int) ≤ 4096) = true := by simp; omega
  have d5 : decide ((nb : Int) ≤ 16384) = true := by simp; omega
  rcases h5 with h5 | ⟨h5, h6⟩
  · have d1 : decide (4096 < (nb : Int)) = true := by simp; omega
    go_enter Try.func6, Try.ntmps6
    go_wp2_with (first
      | (go_at_call 8; refine HH.out.mono ?_; rintro e w' ⟨rfl, rfl⟩)
      | (go_at_call 9; refine (live_any w).mono ?_; rintro e w1 ⟨rfl, hb1⟩))
    go_ret
    exact ⟨rfl, hb1⟩
  · have d1 : decide (4096 < (nb : Int)) = false := by simp; omega
    have d6 : decide (262144 < (tot : Int)) = true := by simp; omega
    go_enter Try.func6, Try.ntmps6
    go_wp2_with (first
      | (go_at_call 8; refine HH.out.mono ?_; rintro e w' ⟨rfl, rfl⟩)
      | (go_at_call 9; refine (live_any w).mono ?_; rintro e w1 ⟨rfl, hb1⟩))
    go_ret
    exact ⟨rfl, hb1⟩

/-- DiskPlays at every input. -/
theorem plays_any (blocks size : Int) (A : Option Addr) (l : List ActV) (k c : Nat) (w : World) (hl : l.length = k) (hk : k ≤ 9223372036854775807) (hr : RdA w A l) (ho : ∀ a ∈ l, a.Ok) :
    Calls Try.prog 6 #[.int .i64 blocks, .int .i64 size, .slice A k c] w (Yes w) := by
  cases hh : hugeB l with
  | true => exact plays_huge blocks size A l k c w hl hk hr ho hh
  | false =>
    by_cases hb : newBad blocks size
    · exact plays_bad blocks size A l k c w hl hk hr ho hh hb
    · unfold newBad at hb
      obtain ⟨nb, rfl⟩ := Int.eq_ofNat_of_zero_le (show 0 ≤ blocks by omega)
      obtain ⟨sz, rfl⟩ := Int.eq_ofNat_of_zero_le (show 0 ≤ size by omega)
      by_cases h1 : 4096 < nb
      · exact plays_big nb sz A l k c w hl hk hr ho hh (by omega) (by omega) (by omega) (by omega) (.inl h1)
      · by_cases h2 : 262144 < nb * sz
        · exact plays_big nb sz A l k c w hl hk hr ho hh (by omega) (by omega) (by omega) (by omega) (.inr ⟨by omega, h2⟩)
        · exact plays_good nb sz A l k c w hl hk hr ho hh (by omega) (by omega) (by omega) (by omega) (by omega)
end Go.Proofs.Ytclbhhgifjegiaa
