/- The walks of the reference's Compare, Same, Rows, Check of layer 7 (written by termcmpgen.py). -/
import Derived.Test.YthhindnjnijglaaTermS
namespace Go.Proofs.Ythhindnjnijglaa
open Go.RowKit
set_option linter.unusedVariables false

def cmpI (a b : Int) : Int := if a < b then -1 else if b < a then 1 else 0
def cmpS (s t : List UInt8) : Int := if Op.bytesLess s t then -1 else if s = t then 0 else 1
theorem less_self : ∀ s : List UInt8, Op.bytesLess s s = false
  | [] => rfl
  | a :: s => by simp [Op.bytesLess, less_self s]
/-- Which head is ahead. -/
def headC (k n : Int) (s : List UInt8) (len : Nat) (k' n' : Int) (s' : List UInt8) (len' : Nat) : Int :=
  if cmpI k k' ≠ 0 then cmpI k k' else if cmpI n n' ≠ 0 then cmpI n n' else if cmpS s s' ≠ 0 then cmpS s s' else cmpI len len'
mutual
/-- Which term is ahead. -/
def TV.cmp : TV → TV → Int
  | .mk k n s l, .mk k' n' s' l' => if headC k n s l.length k' n' s' l'.length ≠ 0 then headC k n s l.length k' n' s' l'.length else TV.cmpL l l'
def TV.cmpL : List TV → List TV → Int
  | [], _ => 0
  | _ :: _, [] => 0
  | t :: r, u :: v => if TV.cmp t u ≠ 0 then TV.cmp t u else TV.cmpL r v
end
theorem TV.cmp_eq (a b : TV) : a.cmp b = if headC a.kind a.int a.name a.items.length b.kind b.int b.name b.items.length ≠ 0 then headC a.kind a.int a.name a.items.length b.kind b.int b.name b.items.length else TV.cmpL a.items b.items := by
  cases a; cases b; simp only [TV.cmp, TV.kind, TV.int, TV.name, TV.items]; first | rfl | (split <;> rfl)
theorem cmpL_take : ∀ (l m : List TV) (k : Nat) (h : k < l.length) (h' : k < m.length), TV.cmpL (l.take (k + 1)) (m.take (k + 1)) = if TV.cmpL (l.take k) (m.take k) ≠ 0 then TV.cmpL (l.take k) (m.take k) else l[k].cmp m[k]
  | t :: r, u :: v, 0, _, _ => by
    simp only [List.take_succ_cons, List.take_zero, TV.cmpL, List.getElem_cons_zero]
    split <;> simp_all
  | t :: r, u :: v, k + 1, h, h' => by
    have := cmpL_take r v k (by simpa using h) (by simpa using h')
    simp only [List.take_succ_cons, TV.cmpL, List.getElem_cons_succ] at this ⊢
    by_cases hc : t.cmp u = 0
    · simp only [hc, ne_eq, not_true_eq_false, if_false]
      exact this
    · simp [hc]
  | [], _, _, h, _ => by simp at h
  | _ :: _, [], _, _, h => by simp at h
theorem cmpL_early : ∀ (l m : List TV) (k : Nat), TV.cmpL (l.take k) (m.take k) ≠ 0 → TV.cmpL l m = TV.cmpL (l.take k) (m.take k)
  | [], _, _, h => by simp [TV.cmpL] at h
  | _ :: _, [], k, h => by cases k <;> simp [TV.cmpL] at h
  | t :: r, u :: v, 0, h => by simp [TV.cmpL] at h
  | t :: r, u :: v, k + 1, h => by
    simp only [List.take_succ_cons, TV.cmpL] at h ⊢
    by_cases hc : t.cmp u = 0
    · simp only [hc, ne_eq, not_true_eq_false, if_false] at h ⊢
      exact cmpL_early r v k h
    · simp [hc]
theorem headC_zero {k n : Int} {s : List UInt8} {len : Nat} {k' n' : Int} {s' : List UInt8} {len' : Nat} : headC k n s len k' n' s' len' = 0 ↔ k = k' ∧ n = n' ∧ s = s' ∧ len = len' := by
  have hI : ∀ a b : Int, cmpI a b = 0 ↔ a = b := fun a b => by unfold cmpI; split <;> (try split) <;> omega
  have hS : ∀ a b : List UInt8, cmpS a b = 0 ↔ a = b := fun a b => by
    unfold cmpS
    by_cases e : a = b
    · subst e; simp [less_self]
    · split
      · simp [e]
      · simp [e]
  unfold headC
  by_cases h1 : k = k'
  · rw [if_neg (by rw [ne_eq, hI]; simp [h1])]
    by_cases h2 : n = n'
    · rw [if_neg (by rw [ne_eq, hI]; simp [h2])]
      by_cases h3 : s = s'
      · rw [if_neg (by rw [ne_eq, hS]; simp [h3]), hI]
        simp [h1, h2, h3]
        omega
      · rw [if_pos (by rw [ne_eq, hS]; exact h3), hS]
        simp [h3]
    · rw [if_pos (by rw [ne_eq, hI]; exact h2), hI]
      simp [h2]
  · rw [if_pos (by rw [ne_eq, hI]; exact h1), hI]
    simp [h1]
mutual
theorem TV.cmp_zero : ∀ a b : TV, a.cmp b = 0 ↔ a = b
  | .mk k n s l, .mk k' n' s' l' => by
    simp only [TV.cmp]
    by_cases h : headC k n s l.length k' n' s' l'.length = 0
    · obtain ⟨rfl, rfl, rfl, hl⟩ := headC_zero.1 h
      rw [if_neg (by rw [h]; simp), TV.cmpL_zero l l' hl]
      simp
    · rw [if_pos h]
      constructor
      · exact fun h' => absurd h' h
      · intro e
        injection e with e1 e2 e3 e4
        subst e1 e2 e3 e4
        exact headC_zero.2 ⟨rfl, rfl, rfl, rfl⟩
theorem TV.cmpL_zero : ∀ l m : List TV, l.length = m.length → (TV.cmpL l m = 0 ↔ l = m)
  | [], [], _ => by simp [TV.cmpL]
  | [], _ :: _, h => by simp at h
  | _ :: _, [], h => by simp at h
  | t :: r, u :: v, h => by
    simp only [TV.cmpL]
    have h1 := TV.cmp_zero t u
    have h2 := TV.cmpL_zero r v (by simpa using h)
    by_cases hc : t.cmp u = 0
    · rw [if_neg (by simp [hc]), h2, List.cons.injEq]
      simp [h1.1 hc]
    · rw [if_pos hc, List.cons.injEq]
      constructor
      · exact fun h' => absurd h' hc
      · exact fun ⟨e, _⟩ => absurd (h1.2 e) hc
end
def CmpEnds (W : World) (z : Int) (e : Ending) (w' : World) : Prop := e = .returned (.int .i64 z) ∧ Below W.heap.size W w'
end Go.Proofs.Ythhindnjnijglaa
