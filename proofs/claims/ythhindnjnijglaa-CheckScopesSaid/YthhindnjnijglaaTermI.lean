/- The walks of the term package's count and Size. The walks of the term package's is, Check, Size. -/
import Derived.Test.YthhindnjnijglaaProg
import Derived.Test.YthhindnjnijglaaTermV
import Derived.StillTailTactics
import Derived.Deep.QuietTactic
import Derived.BigQuiet
import Derived.Outline
import Derived.Deep.Cut
import Derived.Deep.DeepMust
import Derived.IntWalk
import Derived.Deep.RegionHeld3
namespace Go.Proofs.Ythhindnjnijglaa
section
open Go.RowKit
set_option linter.unusedVariables false

/-- What count leaves: the number, and whether there are not too many. -/
def countP (x n : Nat) : Nat × Bool := if x + n ≤ 4096 then (x + n, true) else (4097, false)
theorem countP_yes {x n : Nat} (h : x + n ≤ 4096) : countP x n = (x + n, true) := by unfold countP; rw [if_pos h]
theorem countP_no {x n : Nat} (h : ¬ x + n ≤ 4096) : countP x n = (4097, false) := by unfold countP; rw [if_neg h]
end
section
open Go.RowKit
set_option linter.unusedVariables false

/-- Is it a term, but for its items? -/
def headB (k n : Int) (s : List UInt8) (len : Nat) : Bool :=
  if k = 1 then decide (-576460752303423488 ≤ n) && decide (n ≤ 576460752303423487) && decide (len = 0) && decide (s = [])
  else if k = 2 then decide (s ≠ []) && decide (s.length ≤ 255) && decide (len = 0) && decide (n = 0)
  else if k = 3 ∨ k = 5 then decide (0 ≤ n) && decide (n ≤ 576460752303423487) && decide (len = 0) && decide (s = [])
  else if k = 4 then decide (0 ≤ n) && decide (n ≤ 576460752303423487) && decide (s = [])
  else if k = 6 then decide (n = 0) && decide (s = [])
  else if k = 7 then decide (len = 0) && decide (n = 0) && decide (s = [])
  else if k = 8 then decide (len = 2) && decide (n = 0) && decide (s = [])
  else false
mutual
def TV.isT : TV → Bool
  | .mk k n s l => headB k n s l.length && TV.isL l
def TV.isL : List TV → Bool
  | [] => true
  | t :: r => t.isT && TV.isL r
end
theorem isL_append (l m : List TV) : TV.isL (l ++ m) = (TV.isL l && TV.isL m) := by
  induction l with
  | nil => simp [TV.isL]
  | cons t r ih => simp [TV.isL, ih, Bool.and_assoc]
theorem isL_take (l : List TV) (k : Nat) (h : k < l.length) : TV.isL (l.take (k + 1)) = (TV.isL (l.take k) && l[k].isT) := by
  rw [List.take_succ_eq_append_getElem h, isL_append]
  simp [TV.isL]
theorem isL_no (l : List TV) (k : Nat) (h : k < l.length) (hf : l[k].isT = false) : TV.isL l = false := by
  rw [← List.take_append_drop (k + 1) l, isL_append, isL_take l k h, hf]
  simp
end
end Go.Proofs.Ythhindnjnijglaa
