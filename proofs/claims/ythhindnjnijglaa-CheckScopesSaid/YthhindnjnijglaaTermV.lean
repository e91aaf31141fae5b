/- Terms (recursive data) in memory: words and laws. No function of the program is named here. -/
import Derived.Test.YthhindnjnijglaaFr
namespace Go.Proofs.Ythhindnjnijglaa
open Go.RowKit
set_option linter.unusedVariables false

/-- A term: kind, number, name, items. -/
inductive TV where
  | mk (kind int : Int) (name : List UInt8) (items : List TV)

def TV.kind : TV → Int | .mk k _ _ _ => k
def TV.int : TV → Int | .mk _ n _ _ => n
def TV.name : TV → List UInt8 | .mk _ _ s _ => s
def TV.items : TV → List TV | .mk _ _ _ l => l

mutual
/-- How many parts a term has. -/
def TV.parts : TV → Nat
  | .mk _ _ _ l => TV.partsL l + 1
def TV.partsL : List TV → Nat
  | [] => 0
  | t :: r => t.parts + TV.partsL r
end

mutual
/-- A term in memory, at four cells. -/
def TV.At (W : World) : TV → Nat → Nat → Prop
  | .mk k n s l, b, o => W.cell? ⟨b, o, none⟩ = some (.int .i64 k) ∧ W.cell? ⟨b, o + 1, none⟩ = some (.int .i64 n) ∧ W.cell? ⟨b, o + 2, none⟩ = some (.string ⟨s.toArray⟩) ∧
      ∃ A c, W.cell? ⟨b, o + 3, none⟩ = some (.slice A l.length c) ∧ l.length ≤ c ∧ c ≤ 9223372036854775807 ∧ (l = [] ∨ ∃ b' o', A = some ⟨b', o', none⟩ ∧ TV.Row W l b' o')
def TV.Row (W : World) : List TV → Nat → Nat → Prop
  | [], _, _ => True
  | t :: r, b, o => t.At W b o ∧ TV.Row W r b (o + 4)
end

/-- A slice with the address A and the capacity c reads as these terms. -/
def RdM (W : World) (A : Option Addr) (c : Nat) (l : List TV) : Prop := l.length ≤ c ∧ c ≤ 9223372036854775807 ∧ (l = [] ∨ ∃ b o, A = some ⟨b, o, none⟩ ∧ TV.Row W l b o)

theorem TV.parts_pos (t : TV) : 1 ≤ t.parts := by cases t; simp [TV.parts]
theorem TV.parts_eq (t : TV) : t.parts = TV.partsL t.items + 1 := by cases t; simp [TV.parts, TV.items]
theorem partsL_append (l m : List TV) : TV.partsL (l ++ m) = TV.partsL l + TV.partsL m := by
  induction l with
  | nil => simp [TV.partsL]
  | cons t r ih => simp [TV.partsL, ih]; omega
theorem partsL_take (l : List TV) (k : Nat) (h : k < l.length) : TV.partsL (l.take (k + 1)) = TV.partsL (l.take k) + l[k].parts := by
  rw [List.take_succ_eq_append_getElem h, partsL_append]
  simp [TV.partsL]
theorem partsL_take_le (l : List TV) (k : Nat) : TV.partsL (l.take k) ≤ TV.partsL l := by
  conv => rhs; rw [← List.take_append_drop k l, partsL_append]
  omega
theorem parts_item (l : List TV) (k : Nat) (h : k < l.length) : l[k].parts ≤ TV.partsL l := by
  have h1 := partsL_take l k h
  have h2 := partsL_take_le l (k + 1)
  omega
theorem len_parts (l : List TV) : l.length ≤ TV.partsL l := by
  induction l with
  | nil => simp [TV.partsL]
  | cons t r ih => simp [TV.partsL]; have := t.parts_pos; omega

section
variable {W W' : World}
theorem TV.at_iff (t : TV) (b o : Nat) : t.At W b o ↔ W.cell? ⟨b, o, none⟩ = some (.int .i64 t.kind) ∧ W.cell? ⟨b, o + 1, none⟩ = some (.int .i64 t.int) ∧ W.cell? ⟨b, o + 2, none⟩ = some (.string ⟨t.name.toArray⟩) ∧ ∃ A c, W.cell? ⟨b, o + 3, none⟩ = some (.slice A t.items.length c) ∧ RdM W A c t.items := by
  cases t with
  | mk k n s l => simp only [TV.At, TV.kind, TV.int, TV.name, TV.items, RdM]
theorem row_at : ∀ {l : List TV} {b o : Nat}, TV.Row W l b o → ∀ {k : Nat} (h : k < l.length), l[k].At W b (o + k * 4)
  | [], _, _, _, _, h => by simp at h
  | t :: r, b, o, hr, 0, _ => by
    simp only [TV.Row] at hr
    simpa using hr.1
  | t :: r, b, o, hr, k + 1, h => by
    simp only [TV.Row] at hr
    have := row_at hr.2 (k := k) (by simpa using h)
    rw [show o + (k + 1) * 4 = o + 4 + k * 4 by omega]
    simpa using this
theorem row_of : ∀ {l : List TV} {b o : Nat}, (∀ k (h : k < l.length), l[k].At W b (o + k * 4)) → TV.Row W l b o
  | [], _, _, _ => by simp [TV.Row]
  | t :: r, b, o, h => by
    simp only [TV.Row]
    refine ⟨h 0 (Nat.succ_pos _), row_of fun k hk => ?_⟩
    have := h (k + 1) (by simpa using hk)
    rw [show o + (k + 1) * 4 = o + 4 + k * 4 by omega] at this
    simpa using this

/-- What was there and is there still. -/
def Kept (W W' : World) : Prop := ∀ p : Addr, (W.cell? p).isSome → W'.cell? p = W.cell? p
theorem Kept.of_below (hb : Below W.heap.size W W') : Kept W W' := fun p h => by
  obtain ⟨v, hv⟩ := Option.isSome_iff_exists.1 h
  exact hb.cell (World.block_lt_of_cell? W p hv)
theorem Kept.some (h : Kept W W') {p : Addr} {v : Value} (hv : W.cell? p = some v) : W'.cell? p = some v := (h p (by rw [hv]; rfl)).trans hv

mutual
theorem TV.At.kept (h : Kept W W') : ∀ (t : TV) (b o : Nat), t.At W b o → t.At W' b o
  | .mk k n s l, b, o, ha => by
    simp only [TV.At] at ha ⊢
    obtain ⟨h0, h1, h2, A, c, h3, h4, h5, h6⟩ := ha
    refine ⟨h.some h0, h.some h1, h.some h2, A, c, h.some h3, h4, h5, ?_⟩
    rcases h6 with h6 | ⟨b', o', hA, hr⟩
    · exact .inl h6
    · exact .inr ⟨b', o', hA, TV.Row.kept h l b' o' hr⟩
theorem TV.Row.kept (h : Kept W W') : ∀ (l : List TV) (b o : Nat), TV.Row W l b o → TV.Row W' l b o
  | [], _, _, _ => by simp [TV.Row]
  | t :: r, b, o, hr => by
    simp only [TV.Row] at hr ⊢
    exact ⟨TV.At.kept h t b o hr.1, TV.Row.kept h r b (o + 4) hr.2⟩
end
theorem RdM.kept {A : Option Addr} {c : Nat} {l : List TV} (h : RdM W A c l) (hk : Kept W W') : RdM W' A c l := by
  refine ⟨h.1, h.2.1, ?_⟩
  rcases h.2.2 with h | ⟨b, o, hA, hr⟩
  · exact .inl h
  · exact .inr ⟨b, o, hA, TV.Row.kept hk l b o hr⟩
theorem RdM.below {A : Option Addr} {c : Nat} {l : List TV} (h : RdM W A c l) (hb : Below W.heap.size W W') : RdM W' A c l := h.kept (.of_below hb)
theorem RdM.at_ {A : Option Addr} {c : Nat} {l : List TV} (h : RdM W A c l) {k : Nat} (hk : k < l.length) : ∃ b o, A = some ⟨b, o, none⟩ ∧ l[k].At W b (o + k * 4) := by
  rcases h.2.2 with rfl | ⟨b, o, hA, hr⟩
  · simp at hk
  · exact ⟨b, o, hA, row_at hr hk⟩
/-- An item, read. -/
theorem RdM.item {A : Option Addr} {c : Nat} {l : List TV} (h : RdM W A c l) {k : Nat} (hk : k < l.length) : ∃ b o A' c', A = some ⟨b, o, none⟩ ∧ W.cell? ⟨b, o + k * 4, none⟩ = some (.int .i64 l[k].kind) ∧ W.cell? ⟨b, o + k * 4 + 1, none⟩ = some (.int .i64 l[k].int) ∧ W.cell? ⟨b, o + k * 4 + 2, none⟩ = some (.string ⟨l[k].name.toArray⟩) ∧ W.cell? ⟨b, o + k * 4 + 3, none⟩ = some (.slice A' l[k].items.length c') ∧ RdM W A' c' l[k].items := by
  obtain ⟨b, o, hA, ha⟩ := h.at_ hk
  obtain ⟨h0, h1, h2, A', c', h3, h4⟩ := (TV.at_iff _ _ _).1 ha
  exact ⟨b, o, A', c', hA, h0, h1, h2, h3, h4⟩
end
end Go.Proofs.Ythhindnjnijglaa
