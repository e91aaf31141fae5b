/- Plain laws of layer 8: terms as bytes; what is laid is told apart from all else. No program is named here. -/
import Derived.Test.YtefnjplfemgibaaTermI
import Derived.Test.YtefnjplfemgibaaBackL
namespace Go.Proofs.Ytefnjplfemgibaa
open Go.RowKit
set_option linter.unusedVariables false

/-- What is laid of a term ahead of its items. -/
def layH (k n : Int) (s : List UInt8) (len : Nat) : List UInt8 :=
  UInt8.ofNat k.toNat :: (if k = 1 then laidI n else if k = 2 then laidS s else if k = 3 ∨ k = 5 then laidB n.toNat 0 else if k = 4 then laidB n.toNat 0 ++ laidB len 0 else if k = 6 then laidB len 0 else [])
mutual
/-- A term's bytes. -/
def layT : TV → List UInt8
  | .mk k n s l => layH k n s l.length ++ layTs l
def layTs : List TV → List UInt8
  | [] => []
  | t :: r => layT t ++ layTs r
end
theorem layT_eq (t : TV) : layT t = layH t.kind t.int t.name t.items.length ++ layTs t.items := by cases t; simp only [layT, TV.kind, TV.int, TV.name, TV.items]
theorem layTs_append (l m : List TV) : layTs (l ++ m) = layTs l ++ layTs m := by
  induction l with
  | nil => rfl
  | cons t r ih => simp only [List.cons_append, layTs, ih, List.append_assoc]
theorem layTs_take (l : List TV) (k : Nat) (h : k < l.length) : layTs (l.take (k + 1)) = layTs (l.take k) ++ layT l[k] := by
  rw [List.take_succ_eq_append_getElem h, layTs_append]
  simp only [layTs, List.append_nil]
/-- Terms' bytes. -/
def putB (l : List TV) : List UInt8 := laidB l.length 0 ++ layTs l

theorem head_cases {k n : Int} {s : List UInt8} {len : Nat} (h : headB k n s len = true) :
    (k = 1 ∧ -576460752303423488 ≤ n ∧ n ≤ 576460752303423487 ∧ len = 0 ∧ s = []) ∨ (k = 2 ∧ s ≠ [] ∧ s.length ≤ 255 ∧ len = 0 ∧ n = 0) ∨ ((k = 3 ∨ k = 5) ∧ 0 ≤ n ∧ n ≤ 576460752303423487 ∧ len = 0 ∧ s = []) ∨ (k = 4 ∧ 0 ≤ n ∧ n ≤ 576460752303423487 ∧ s = []) ∨ (k = 6 ∧ n = 0 ∧ s = []) ∨ (k = 7 ∧ len = 0 ∧ n = 0 ∧ s = []) ∨ (k = 8 ∧ len = 2 ∧ n = 0 ∧ s = []) := by
  unfold headB at h
  by_cases h1 : k = 1
  · rw [if_pos h1] at h; simp at h; exact .inl ⟨h1, by omega, by omega, h.1.2, h.2⟩
  rw [if_neg h1] at h
  by_cases h2 : k = 2
  · rw [if_pos h2] at h; simp at h; exact .inr (.inl ⟨h2, h.1.1.1, h.1.1.2, h.1.2, h.2⟩)
  rw [if_neg h2] at h
  by_cases h3 : k = 3 ∨ k = 5
  · rw [if_pos h3] at h; simp at h; exact .inr (.inr (.inl ⟨h3, by omega, by omega, h.1.2, h.2⟩))
  rw [if_neg h3] at h
  by_cases h4 : k = 4
  · rw [if_pos h4] at h; simp at h; exact .inr (.inr (.inr (.inl ⟨h4, by omega, by omega, h.2⟩)))
  rw [if_neg h4] at h
  by_cases h6 : k = 6
  · rw [if_pos h6] at h; simp at h; exact .inr (.inr (.inr (.inr (.inl ⟨h6, h.1, h.2⟩))))
  rw [if_neg h6] at h
  by_cases h7 : k = 7
  · rw [if_pos h7] at h; simp at h; exact .inr (.inr (.inr (.inr (.inr (.inl ⟨h7, h.1.1, h.1.2, h.2⟩)))))
  rw [if_neg h7] at h
  by_cases h8 : k = 8
  · rw [if_pos h8] at h; simp at h; exact .inr (.inr (.inr (.inr (.inr (.inr ⟨h8, h.1.1, h.1.2, h.2⟩)))))
  rw [if_neg h8] at h
  cases h

theorem layH_len {k n : Int} {s : List UInt8} {len : Nat} (h : headB k n s len = true) : (layH k n s len).length ≤ 300 := by
  have a1 := laidI_len n
  have a2 := wid_le n.toNat
  have a3 := wid_le len
  have a4 := wid_le s.length
  rcases head_cases h with ⟨rfl, _⟩ | ⟨rfl, _, hs, _⟩ | ⟨rfl | rfl, _⟩ | ⟨rfl, _⟩ | ⟨rfl, _⟩ | ⟨rfl, _⟩ | ⟨rfl, _⟩ <;> simp [layH, laidS, laidB_len] <;> omega
mutual
theorem layT_len : ∀ t : TV, t.isT = true → (layT t).length ≤ 300 * t.parts
  | .mk k n s l, h => by
    simp only [TV.isT, Bool.and_eq_true] at h
    have h1 := layH_len h.1
    have h2 := layTs_len l h.2
    simp only [layT, List.length_append, TV.parts]
    omega
theorem layTs_len : ∀ l : List TV, TV.isL l = true → (layTs l).length ≤ 300 * TV.partsL l
  | [], _ => by simp [layTs]
  | t :: r, h => by
    simp only [TV.isL, Bool.and_eq_true] at h
    have h1 := layT_len t h.1
    have h2 := layTs_len r h.2
    simp only [layTs, List.length_append, TV.partsL]
    omega
end

theorem u8_small {a b : Nat} (ha : a < 256) (hb : b < 256) (h : UInt8.ofNat a = UInt8.ofNat b) : a = b := by
  have := congrArg UInt8.toNat h
  simp at this
  omega
theorem append_split {α : Type} {a b r r' : List α} (hl : a.length = b.length) (h : a ++ r = b ++ r') : a = b ∧ r = r' := List.append_inj h hl
theorem laidB_ud {n n' m m' : Nat} {r r' : List UInt8} (hn : n < 18446744073709551616) (hn' : n' < 18446744073709551616) (hm : m = 0 ∨ m = 128) (hm' : m' = 0 ∨ m' = 128) (h : laidB n m ++ r = laidB n' m' ++ r') : n = n' ∧ m = m' ∧ r = r' := by
  unfold laidB at h
  simp only [List.cons_append, List.cons.injEq] at h
  have h1 := wid_le n
  have h2 := wid_le n'
  have h3 := u8_small (by omega) (by omega) h.1
  have h4 : wid n = wid n' ∧ m = m' := by omega
  obtain ⟨h5, h6⟩ := append_split (by rw [be_length, be_length, h4.1]) h.2
  refine ⟨?_, h4.2, h6⟩
  have h7 := congrArg toldN h5
  rwa [told_wid hn, told_wid hn'] at h7
theorem laidI_ud {z z' : Int} {r r' : List UInt8} (h1 : -9223372036854775808 ≤ z) (h2 : z ≤ 9223372036854775807) (h1' : -9223372036854775808 ≤ z') (h2' : z' ≤ 9223372036854775807) (h : laidI z ++ r = laidI z' ++ r') : z = z' ∧ r = r' := by
  unfold laidI at h
  by_cases hz : z < 0
  · rw [if_pos hz] at h
    by_cases hz' : z' < 0
    · rw [if_pos hz'] at h
      obtain ⟨a, _, b⟩ := laidB_ud (by omega) (by omega) (.inr rfl) (.inr rfl) h
      exact ⟨by omega, b⟩
    · rw [if_neg hz'] at h
      obtain ⟨a, b, _⟩ := laidB_ud (by omega) (by omega) (.inr rfl) (.inl rfl) h
      omega
  · rw [if_neg hz] at h
    by_cases hz' : z' < 0
    · rw [if_pos hz'] at h
      obtain ⟨a, b, _⟩ := laidB_ud (by omega) (by omega) (.inl rfl) (.inr rfl) h
      omega
    · rw [if_neg hz'] at h
      obtain ⟨a, _, b⟩ := laidB_ud (by omega) (by omega) (.inl rfl) (.inl rfl) h
      exact ⟨by omega, b⟩
theorem laidS_ud {s s' r r' : List UInt8} (hs : s.length < 18446744073709551616) (hs' : s'.length < 18446744073709551616) (h : laidS s ++ r = laidS s' ++ r') : s = s' ∧ r = r' := by
  unfold laidS at h
  rw [List.append_assoc, List.append_assoc] at h
  obtain ⟨a, _, b⟩ := laidB_ud hs hs' (.inl rfl) (.inl rfl) h
  exact append_split a b
theorem layH_ud {k n k' n' : Int} {s s' r r' : List UInt8} {len len' : Nat} (h : headB k n s len = true) (h' : headB k' n' s' len' = true) (hl : len < 18446744073709551616) (hl' : len' < 18446744073709551616) (he : layH k n s len ++ r = layH k' n' s' len' ++ r') : k = k' ∧ n = n' ∧ s = s' ∧ len = len' ∧ r = r' := by
  have hk : k = k' := by
    have e1 := congrArg List.head? he
    simp only [layH, List.cons_append, List.head?_cons, Option.some.injEq] at e1
    have a1 : 1 ≤ k ∧ k ≤ 8 := by rcases head_cases h with h | h | h | h | h | h | h <;> omega
    have a2 : 1 ≤ k' ∧ k' ≤ 8 := by rcases head_cases h' with h | h | h | h | h | h | h <;> omega
    have := u8_small (by omega) (by omega) e1
    omega
  subst hk
  have c1 := head_cases h
  have c2 := head_cases h'
  clear h h'
  rcases c1 with ⟨rfl, a1, a2, a3, a4⟩ | ⟨rfl, a1, a2, a3, a4⟩ | ⟨hk, a1, a2, a3, a4⟩ | ⟨rfl, a1, a2, a3⟩ | ⟨rfl, a1, a2⟩ | ⟨rfl, a1, a2, a3⟩ | ⟨rfl, a1, a2, a3⟩
  · simp at c2
    obtain ⟨b1, b2, b3, b4⟩ := c2
    simp [layH] at he
    obtain ⟨e1, e2⟩ := laidI_ud (by omega) (by omega) (by omega) (by omega) he
    exact ⟨rfl, e1, by rw [a4, b4], by omega, e2⟩
  · simp at c2
    obtain ⟨b1, b2, b3, b4⟩ := c2
    simp [layH] at he
    obtain ⟨e1, e2⟩ := laidS_ud (by omega) (by omega) he
    exact ⟨rfl, by omega, e1, by omega, e2⟩
  · have h0 : layH k n s len = UInt8.ofNat k.toNat :: laidB n.toNat 0 := by rcases hk with rfl | rfl <;> simp [layH]
    have h0' : layH k n' s' len' = UInt8.ofNat k.toNat :: laidB n'.toNat 0 := by rcases hk with rfl | rfl <;> simp [layH]
    have c3 : 0 ≤ n' ∧ n' ≤ 576460752303423487 ∧ len' = 0 ∧ s' = [] := by rcases hk with rfl | rfl <;> simpa using c2
    rw [h0, h0'] at he
    simp only [List.cons_append, List.cons.injEq, true_and] at he
    obtain ⟨e1, _, e2⟩ := laidB_ud (by omega) (by omega) (.inl rfl) (.inl rfl) he
    exact ⟨rfl, by omega, by rw [a4, c3.2.2.2], by omega, e2⟩
  · simp at c2
    obtain ⟨b1, b2, b3⟩ := c2
    simp [layH] at he
    obtain ⟨e1, _, e2⟩ := laidB_ud (by omega) (by omega) (.inl rfl) (.inl rfl) he
    obtain ⟨e3, _, e4⟩ := laidB_ud hl hl' (.inl rfl) (.inl rfl) e2
    exact ⟨rfl, by omega, by rw [a3, b3], e3, e4⟩
  · simp at c2
    obtain ⟨b1, b2⟩ := c2
    simp [layH] at he
    obtain ⟨e3, _, e4⟩ := laidB_ud hl hl' (.inl rfl) (.inl rfl) he
    exact ⟨rfl, by omega, by rw [a2, b2], e3, e4⟩
  · simp at c2
    obtain ⟨b1, b2, b3⟩ := c2
    simp [layH] at he
    exact ⟨rfl, by omega, by rw [a3, b3], by omega, he⟩
  · simp at c2
    obtain ⟨b1, b2, b3⟩ := c2
    simp [layH] at he
    exact ⟨rfl, by omega, by rw [a3, b3], by omega, he⟩
mutual
/-- What is laid is told apart. -/
theorem layT_ud : ∀ (t t' : TV) (r r' : List UInt8), t.isT = true → t'.isT = true → t.parts < 18446744073709551616 → t'.parts < 18446744073709551616 → layT t ++ r = layT t' ++ r' → t = t' ∧ r = r'
  | .mk k n s l, .mk k' n' s' l', r, r', h, h', hp, hp', he => by
    simp only [TV.isT, Bool.and_eq_true] at h h'
    simp only [TV.parts] at hp hp'
    have a1 := len_parts l
    have a2 := len_parts l'
    simp only [layT, List.append_assoc] at he
    obtain ⟨rfl, rfl, rfl, hl, he2⟩ := layH_ud h.1 h'.1 (by omega) (by omega) he
    obtain ⟨rfl, h3⟩ := layTs_ud l l' r r' hl h.2 h'.2 (by omega) (by omega) he2
    exact ⟨rfl, h3⟩
theorem layTs_ud : ∀ (l l' : List TV) (r r' : List UInt8), l.length = l'.length → TV.isL l = true → TV.isL l' = true → TV.partsL l < 18446744073709551616 → TV.partsL l' < 18446744073709551616 → layTs l ++ r = layTs l' ++ r' → l = l' ∧ r = r'
  | [], [], r, r', _, _, _, _, _, he => ⟨rfl, by simpa [layTs] using he⟩
  | [], _ :: _, _, _, hl, _, _, _, _, _ => by simp at hl
  | _ :: _, [], _, _, hl, _, _, _, _, _ => by simp at hl
  | t :: l, t' :: l', r, r', hl, h, h', hp, hp', he => by
    simp only [TV.isL, Bool.and_eq_true] at h h'
    simp only [TV.partsL] at hp hp'
    simp only [layTs, List.append_assoc] at he
    obtain ⟨rfl, he2⟩ := layT_ud t t' _ _ h.1 h'.1 (by omega) (by omega) he
    obtain ⟨rfl, h3⟩ := layTs_ud l l' r r' (by simpa using hl) h.2 h'.2 (by omega) (by omega) he2
    exact ⟨rfl, h3⟩
end
theorem putB_ud {l l' : List TV} {r r' : List UInt8} (h : TV.isL l = true) (h' : TV.isL l' = true) (hp : TV.partsL l < 18446744073709551616) (hp' : TV.partsL l' < 18446744073709551616) (he : putB l ++ r = putB l' ++ r') : l = l' ∧ r = r' := by
  have a1 := len_parts l
  have a2 := len_parts l'
  unfold putB at he
  rw [List.append_assoc, List.append_assoc] at he
  obtain ⟨e1, _, e2⟩ := laidB_ud (by omega) (by omega) (.inl rfl) (.inl rfl) he
  exact layTs_ud l l' r r' e1 h h' hp hp' e2
end Go.Proofs.Ytefnjplfemgibaa
