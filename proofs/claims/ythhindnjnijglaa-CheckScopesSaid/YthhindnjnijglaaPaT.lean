/- Layer 11: a property of all names that stand in a tree; distinct names of a row. No program is named here. -/
import Derived.Test.YthhindnjnijglaaMaA
namespace Go.Proofs.Ythhindnjnijglaa
open Go.RowKit
set_option linter.unusedVariables false

mutual
/-- All names in a tree have the property. -/
def ND.all (Q : List UInt8 → Prop) : ND → Prop
  | .mk _ _ s _ l m r => Q s ∧ ND.allL Q l ∧ CD.allL Q m ∧ ND.allL Q r
def ND.allL (Q : List UInt8 → Prop) : List ND → Prop
  | [] => True
  | t :: r => t.all Q ∧ ND.allL Q r
def CD.all (Q : List UInt8 → Prop) : CD → Prop
  | .mk p g b s _ => Q s ∧ ND.allL Q p ∧ ND.allL Q g ∧ ND.allL Q b
def CD.allL (Q : List UInt8 → Prop) : List CD → Prop
  | [] => True
  | t :: r => t.all Q ∧ CD.allL Q r
end
section
variable {Q : List UInt8 → Prop}
theorem ND.all_iff (t : ND) : t.all Q ↔ Q t.name ∧ ND.allL Q t.kids ∧ CD.allL Q t.clauses ∧ ND.allL Q t.body := by cases t; simp [ND.all, ND.name, ND.kids, ND.clauses, ND.body]
theorem CD.all_iff (t : CD) : t.all Q ↔ Q t.name ∧ ND.allL Q t.patterns ∧ ND.allL Q t.guards ∧ ND.allL Q t.body := by cases t; simp [CD.all, CD.name, CD.patterns, CD.guards, CD.body]
theorem ndall_at : ∀ {l : List ND}, ND.allL Q l → ∀ {k : Nat} (h : k < l.length), l[k].all Q
  | t :: r, hl, 0, _ => by simp only [ND.allL] at hl; exact hl.1
  | t :: r, hl, k + 1, h => by simp only [ND.allL] at hl; exact ndall_at hl.2 (by simpa using h)
theorem ndall_append {l m : List ND} : ND.allL Q (l ++ m) ↔ ND.allL Q l ∧ ND.allL Q m := by
  induction l with
  | nil => simp [ND.allL]
  | cons t r ih => simp [ND.allL, ih, and_assoc]
theorem cdall_append {l m : List CD} : CD.allL Q (l ++ m) ↔ CD.allL Q l ∧ CD.allL Q m := by
  induction l with
  | nil => simp [CD.allL]
  | cons t r ih => simp [CD.allL, ih, and_assoc]
end
theorem nodup_le {α : Type} [BEq α] [LawfulBEq α] : ∀ {l m : List α}, l.Nodup → (∀ x ∈ l, x ∈ m) → l.length ≤ m.length
  | [], m, _, _ => Nat.zero_le _
  | x :: r, m, hd, hs => by
    obtain ⟨h1, h2⟩ := List.nodup_cons.1 hd
    have hx := hs x (List.mem_cons_self ..)
    have := nodup_le (m := m.erase x) h2 fun y hy => by
      have hne : y ≠ x := fun e => h1 (e ▸ hy)
      exact (List.mem_erase_of_ne hne).2 (hs y (List.mem_cons_of_mem _ hy))
    rw [List.length_erase_of_mem hx] at this
    have hp := List.length_pos_of_mem hx
    simp only [List.length_cons]
    omega
theorem risG_mem {α : Type} {E : List (BG α)} {q : BG α} (h : q ∈ risG E) : q ∈ E := by
  obtain ⟨s, v⟩ := q
  have := (getG_srt (risG_srt E)).2 h
  rw [getG_risG] at this
  exact getG_mem this
theorem risG_le {α : Type} {E : List (BG α)} {K : List (List UInt8)} (h : ∀ q ∈ E, q.1 ∈ K) : (risG E).length ≤ K.length := by
  have := nodup_le (l := (risG E).map (·.1)) (m := K) (List.pairwise_map.2 ((risG_srt E).imp fun hlt => lt_ne hlt)) fun x hx => by
    obtain ⟨q, hq, rfl⟩ := List.mem_map.1 hx
    exact h q (risG_mem hq)
  simpa using this
end Go.Proofs.Ythhindnjnijglaa
