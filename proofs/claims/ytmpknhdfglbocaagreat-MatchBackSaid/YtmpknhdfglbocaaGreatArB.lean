/- Arith (layer 14): slices.Clone of terms, Tuple; Elements; what compares. -/
import Derived.Test.YtmpknhdfglbocaaGreatArA
namespace Go.Proofs.YtmpknhdfglbocaaGreat
open Go.RowKit
set_option linter.unusedVariables false

section
variable {W V V' : World} {u u' : Value} {t t' : TV}
/-- A slice of terms. -/
def LVal (V : World) (u : Value) (l : List TV) : Prop := ∃ A n c, u = .slice A n c ∧ l.length = n ∧ RdM V A c l
theorem LVal.below {l : List TV} (h : LVal V u l) (hb : Below V.heap.size V V') : LVal V' u l := by
  obtain ⟨A, n, c, h1, h2, h3⟩ := h
  exact ⟨A, n, c, h1, h2, h3.below hb⟩
theorem LVal.kept {l : List TV} (h : LVal V u l) (hk : Kept V V') : LVal V' u l := by
  obtain ⟨A, n, c, h1, h2, h3⟩ := h
  exact ⟨A, n, c, h1, h2, h3.kept hk⟩
/-- .. whatever becomes of the blocks X. -/
def LEx (X : Nat → Prop) (V : World) (u : Value) (l : List TV) : Prop := LVal (ers X V) u l
theorem LEx.val {X : Nat → Prop} {l : List TV} (h : LEx X V u l) : LVal V u l := LVal.kept h (kept_ers X V)
theorem LEx.step {X Y : Nat → Prop} {l : List TV} (h : LEx X V u l) (hf : Fr Y V V') (hY : ∀ k, k < V.heap.size → Y k → X k) : LEx X V' u l := LVal.kept h (kept_step hf hY (fun _ _ h => h))
theorem LEx.below {X : Nat → Prop} {l : List TV} (h : LEx X V u l) (hb : Below V.heap.size V V') : LEx X V' u l := h.step (Fr.of_below hb X) (fun _ _ h => h)
theorem LEx.weak {X Y : Nat → Prop} {l : List TV} (h : LEx X V u l) (hY : ∀ k, k < V.heap.size → Y k → X k) : LEx Y V u l := LVal.kept h (kept_step (Fr.refl X V) (fun _ _ h => h) hY)
theorem LEx.form {X : Nat → Prop} {l : List TV} (h : LEx X V u l) : ∃ A n c, u = .slice A n c ∧ l.length = n ∧ n ≤ c ∧ c ≤ 9223372036854775807 := by
  obtain ⟨A, n, c, h1, h2, h3⟩ := h
  exact ⟨A, n, c, h1, h2, by have := h3.1; omega, h3.2.1⟩
/-- An element of a slice of terms. -/
theorem LEx.item {X : Nat → Prop} {l : List TV} {A : Option Addr} {n c : Nat} (h : LEx X V (.slice A n c) l) {j : Nat} (hj : j < l.length) : ∃ b o A' n' c', A = some ⟨b, o, none⟩ ∧ V.cell? ⟨b, o + j * 4, none⟩ = some (.int .i64 l[j].kind) ∧ V.cell? ⟨b, o + j * 4 + 1, none⟩ = some (.int .i64 l[j].int) ∧ V.cell? ⟨b, o + j * 4 + 2, none⟩ = some (.string ⟨l[j].name.toArray⟩) ∧ V.cell? ⟨b, o + j * 4 + 3, none⟩ = some (.slice A' n' c') ∧ l[j].items.length = n' ∧ TEx X V (.agg #[.int .i64 l[j].kind, .int .i64 l[j].int, .string ⟨l[j].name.toArray⟩, .slice A' n' c']) l[j] := by
  obtain ⟨A0, n0, c0, e, h2, h3⟩ := h
  obtain ⟨rfl, rfl, rfl⟩ := Value.slice.inj e
  obtain ⟨b, o, A', c', hA, e0, e1, e2, e3, hR⟩ := h3.item hj
  exact ⟨b, o, A', _, c', hA, ((ers_cell _ _ _).1 e0).2, ((ers_cell _ _ _).1 e1).2, ((ers_cell _ _ _).1 e2).2, ((ers_cell _ _ _).1 e3).2, rfl, A', _, c', rfl, rfl, hR⟩
/-- A term's items. -/
theorem TEx.items {X : Nat → Prop} {k n : Int} {s : List UInt8} {A : Option Addr} {m c : Nat} (h : TEx X V (.agg #[.int .i64 k, .int .i64 n, .string ⟨s.toArray⟩, .slice A m c]) t) : LEx X V (.slice A m c) t.items := by
  obtain ⟨A', n', c', e, hn, hR⟩ := h
  simp only [Value.agg.injEq, Array.mk.injEq, List.cons.injEq, Value.slice.injEq, and_true] at e
  obtain ⟨_, _, _, rfl, rfl, rfl⟩ := e
  exact ⟨A, m, c, rfl, hn, hR⟩
/-- Each term's four cells. -/
def StdE (V : World) (cs : List Value) (l : List TV) : Prop := ∀ j, (h : j < l.length) → ∃ (k n : Int) (s : List UInt8) (A : Option Addr) (m c : Nat), cs[j * 4]? = some (.int .i64 k) ∧ cs[j * 4 + 1]? = some (.int .i64 n) ∧ cs[j * 4 + 2]? = some (.string ⟨s.toArray⟩) ∧ cs[j * 4 + 3]? = some (.slice A m c) ∧ TVal V (.agg #[.int .i64 k, .int .i64 n, .string ⟨s.toArray⟩, .slice A m c]) l[j]
/-- Cells that stand for terms wherever they are copied to. -/
def Std (V : World) (cs : List Value) (l : List TV) : Prop := cs.length = l.length * 4 ∧ (∀ u ∈ cs, u.oneCell' = true) ∧ StdE V cs l
theorem row_of_at : ∀ {l : List TV} {b o : Nat}, (∀ k, (h : k < l.length) → l[k].At V b (o + k * 4)) → TV.Row V l b o
  | [], b, o, _ => by simp [TV.Row]
  | t :: r, b, o, h => by
    simp only [TV.Row]
    refine ⟨by have := h 0 (by simp); rw [Nat.zero_mul, Nat.add_zero] at this; exact this, row_of_at fun k hk => ?_⟩
    have := h (k + 1) (by simp; omega)
    rw [show o + (k + 1) * 4 = o + 4 + k * 4 by omega] at this
    exact this
theorem Std.row {cs : List Value} {l : List TV} (h : Std V cs l) (V2 : World) (g o' : Nat) (hk : Kept V V2) (hc : ∀ j, (h : j < cs.length) → V2.cell? ⟨g, o' + j, none⟩ = some cs[j]) : TV.Row V2 l g o' := row_of_at fun j hj => by
  obtain ⟨k, n, s, A, m, c, e0, e1, e2, e3, hT⟩ := h.2.2 j hj
  have hh : ∀ i u, cs[i]? = some u → V2.cell? ⟨g, o' + i, none⟩ = some u := fun i u hu => by
    obtain ⟨hlt, rfl⟩ := List.getElem?_eq_some_iff.1 hu
    exact hc i hlt
  exact tval_at (hT.kept hk) (hh _ _ e0) (by rw [Nat.add_assoc]; exact hh _ _ e1) (by rw [Nat.add_assoc]; exact hh _ _ e2) (by rw [Nat.add_assoc]; exact hh _ _ e3)
theorem Std.kept {cs : List Value} {l : List TV} (h : Std V cs l) (hk : Kept V V') : Std V' cs l := by
  refine ⟨h.1, h.2.1, fun j hj => ?_⟩
  obtain ⟨k, n, s, A, m, c, e0, e1, e2, e3, hT⟩ := h.2.2 j hj
  exact ⟨k, n, s, A, m, c, e0, e1, e2, e3, hT.kept hk⟩
theorem Std.append {cs cs' : List Value} {l l' : List TV} (h : Std V cs l) (h' : Std V cs' l') : Std V (cs ++ cs') (l ++ l') := by
  have h1 := h.1
  refine ⟨by simp [h.1, h'.1]; omega, fun u hu => ?_, fun j hj => ?_⟩
  · rcases List.mem_append.1 hu with hu | hu
    · exact h.2.1 u hu
    · exact h'.2.1 u hu
  · by_cases hl : j < l.length
    · obtain ⟨k, n, s, A, m, c, e0, e1, e2, e3, hT⟩ := h.2.2 j hl
      rw [List.getElem_append_left hl]
      exact ⟨k, n, s, A, m, c, by rw [List.getElem?_append_left (by omega)]; exact e0, by rw [List.getElem?_append_left (by omega)]; exact e1, by rw [List.getElem?_append_left (by omega)]; exact e2, by rw [List.getElem?_append_left (by omega)]; exact e3, hT⟩
    · have hj2 : j - l.length < l'.length := by simp at hj; omega
      obtain ⟨k, n, s, A, m, c, e0, e1, e2, e3, hT⟩ := h'.2.2 (j - l.length) hj2
      rw [List.getElem_append_right (by omega)]
      exact ⟨k, n, s, A, m, c, by rw [List.getElem?_append_right (by omega), show j * 4 - cs.length = (j - l.length) * 4 by omega]; exact e0, by rw [List.getElem?_append_right (by omega), show j * 4 + 1 - cs.length = (j - l.length) * 4 + 1 by omega]; exact e1, by rw [List.getElem?_append_right (by omega), show j * 4 + 2 - cs.length = (j - l.length) * 4 + 2 by omega]; exact e2, by rw [List.getElem?_append_right (by omega), show j * 4 + 3 - cs.length = (j - l.length) * 4 + 3 by omega]; exact e3, hT⟩

end
end Go.Proofs.YtmpknhdfglbocaaGreat
