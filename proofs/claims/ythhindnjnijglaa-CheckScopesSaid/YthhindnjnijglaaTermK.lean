/- The term package's is, Check, Size: their contracts. -/
import Derived.Test.YthhindnjnijglaaTermJ
namespace Go.Proofs.Ythhindnjnijglaa
open Go.RowKit
set_option linter.unusedVariables false

mutual
/-- No name in a term is longer than may be. -/
def TV.named : TV → Prop
  | .mk _ _ s l => s.length ≤ 140737488351232 ∧ TV.namedL l
def TV.namedL : List TV → Prop
  | [] => True
  | t :: r => t.named ∧ TV.namedL r
end
theorem namedL_at : ∀ {l : List TV}, TV.namedL l → ∀ {k : Nat} (h : k < l.length), l[k].named
  | [], _, _, h => by simp at h
  | t :: r, hn, 0, _ => by simp only [TV.namedL] at hn; exact hn.1
  | t :: r, hn, k + 1, h => by simp only [TV.namedL] at hn; exact namedL_at hn.2 (by simpa using h)
theorem TV.named_iff (t : TV) : t.named ↔ t.name.length ≤ 140737488351232 ∧ TV.namedL t.items := by cases t; simp [TV.named, TV.name, TV.items]
theorem TV.isT_eq (t : TV) : t.isT = (headB t.kind t.int t.name t.items.length && TV.isL t.items) := by cases t; simp [TV.isT, TV.kind, TV.int, TV.name, TV.items]

/-- How many parts, up to one more than may be. -/
def sizeP (n : Nat) : Nat := if n ≤ 4096 then n else 4097
/-- Check, as a function. -/
def checkP (l : List TV) : Nat := if TV.partsL l ≤ 4096 then (if TV.isL l then 0 else 70) else 6
end Go.Proofs.Ythhindnjnijglaa
