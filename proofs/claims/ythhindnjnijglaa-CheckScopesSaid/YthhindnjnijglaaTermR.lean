/- The walks of the reference's left, Size, Fits of layer 7. -/
import Derived.Test.YthhindnjnijglaaTermK
namespace Go.Proofs.Ythhindnjnijglaa
open Go.RowKit
set_option linter.unusedVariables false

/-- What is left of a number behind parts. -/
def leftI (m : Int) (p : Nat) : Int := if (p : Int) ≤ m then m - p else -1
theorem leftI_succ (n : Int) (q : Nat) (hn : 0 ≤ n) : leftI n (q + 1) = leftI (n - 1) q := by
  unfold leftI
  by_cases h : (q : Int) ≤ n - 1
  · rw [if_pos (by omega), if_pos h]; omega
  · rw [if_neg (by omega), if_neg h]
theorem leftI_bd (m : Int) (p : Nat) (hm : -1 ≤ m) : -1 ≤ leftI m p ∧ leftI m p ≤ m := by
  unfold leftI
  split <;> omega
theorem leftI_add (m : Int) (p q : Nat) (h : 0 ≤ leftI m p) : leftI m (p + q) = leftI (leftI m p) q := by
  unfold leftI at h ⊢
  split at h
  · rename_i h1
    rw [if_pos h1]
    by_cases h2 : ((p + q : Nat) : Int) ≤ m
    · rw [if_pos h2, if_pos (by omega)]; omega
    · rw [if_neg h2, if_neg (by omega)]
  · omega
theorem leftI_neg (m : Int) (p q : Nat) (hpq : p ≤ q) (h : leftI m p < 0) : leftI m q = -1 := by
  unfold leftI at h ⊢
  split at h
  · omega
  · rename_i h1
    rw [if_neg (by omega)]

end Go.Proofs.Ythhindnjnijglaa
