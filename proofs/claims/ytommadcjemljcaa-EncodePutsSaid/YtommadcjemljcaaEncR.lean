/- Layer 8: what is read of bytes, as a relation; what was laid is read. No program is named here. -/
import Derived.Test.YtommadcjemljcaaEncA
import Derived.Test.YtommadcjemljcaaTapeB
import Derived.Test.YtommadcjemljcaaTermK
import Derived.IntWalk
namespace Go.Proofs.Ytommadcjemljcaa
open Go.RowKit
set_option linter.unusedVariables false

/-- A number of 64 bits as an int. -/
def i64 (n : Nat) : Int := wrap64 (n : Int)
mutual
/-- A term is read of a tape, with so many parts that may still come: the term, the tape, what is left. -/
inductive TermR : TS → Int → TV → TS → Int → Prop
  | k1 {t : TS} {left : Int} (h : t.byte.1 = 1) : TermR t left (.mk 1 t.byte.2.int.1 [] []) t.byte.2.int.2 (left - 1)
  | k2 {t : TS} {left : Int} (h : t.byte.1 = 2) : TermR t left (.mk 2 0 (t.byte.2.str 255).1 []) (t.byte.2.str 255).2 (left - 1)
  | k35 {t : TS} {left : Int} (h : t.byte.1 = 3 ∨ t.byte.1 = 5) : TermR t left (.mk t.byte.1.toNat (i64 (t.byte.2.number false).1.1) [] []) (t.byte.2.number false).2 (left - 1)
  | k4 {t t' : TS} {left left' : Int} {xs : List TV} (h : t.byte.1 = 4) (hs : SomeR ((t.byte.2.number false).2.number false).1.1 ((t.byte.2.number false).2.number false).2 (left - 1) xs t' left') : TermR t left (.mk 4 (i64 (t.byte.2.number false).1.1) [] xs) t' left'
  | k6 {t t' : TS} {left left' : Int} {xs : List TV} (h : t.byte.1 = 6) (hs : SomeR (t.byte.2.number false).1.1 (t.byte.2.number false).2 (left - 1) xs t' left') : TermR t left (.mk 6 0 [] xs) t' left'
  | k8 {t t' : TS} {left left' : Int} {xs : List TV} (h : t.byte.1 = 8) (hs : SomeR 2 t.byte.2 (left - 1) xs t' left') : TermR t left (.mk 8 0 [] xs) t' left'
  | ko {t : TS} {left : Int} (h : t.byte.1 ≠ 1 ∧ t.byte.1 ≠ 2 ∧ t.byte.1 ≠ 3 ∧ t.byte.1 ≠ 5 ∧ t.byte.1 ≠ 4 ∧ t.byte.1 ≠ 6 ∧ t.byte.1 ≠ 8) : TermR t left (.mk t.byte.1.toNat 0 [] []) t.byte.2 (left - 1)
/-- So many terms, as long as all is right. -/
inductive SomeR : Nat → TS → Int → List TV → TS → Int → Prop
  | stop {n : Nat} {t : TS} {left : Int} (h : ¬ (0 < n ∧ t.fault = 0 ∧ 0 ≤ left)) : SomeR n t left [] t left
  | more {n : Nat} {t t1 t2 : TS} {left l1 l2 : Int} {x : TV} {r : List TV} (h : 0 < n ∧ t.fault = 0 ∧ 0 ≤ left) (hx : TermR t left x t1 l1) (hr : SomeR (n - 1) t1 l1 r t2 l2) : SomeR n t left (x :: r) t2 l2
end

theorem byte_at {t : TS} {b : UInt8} {r : List UInt8} (hf : t.fault = 0) (h : t.bytes.drop t.pos = b :: r) : t.byte = (b, { t with pos := t.pos + 1 }) ∧ t.bytes.drop (t.pos + 1) = r := by
  obtain ⟨h1, h2⟩ := head_at h
  exact ⟨by unfold TS.byte; rw [if_neg (by simp [hf]), h1], h2⟩
theorem i64_small {n : Nat} (h : n ≤ 9223372036854775807) : i64 n = n := by
  unfold i64
  exact IntWalk.wrap64_in _ ⟨by omega, by omega⟩
theorem drop_more {l a r : List UInt8} {p : Nat} (h : l.drop p = a ++ r) : l.drop (p + a.length) = r := by
  rw [← List.drop_drop, h, List.drop_left]
/-- A term was laid: it is what is read. -/
def TermGoal (y : TV) : Prop := ∀ (rest : List UInt8) (t : TS) (left : Int) (x : TV) (t' : TS) (left' : Int), t.fault = 0 → t.bytes.drop t.pos = layT y ++ rest → y.isT = true → (y.parts : Int) ≤ left → left ≤ 1000000 → TermR t left x t' left' →
  x = y ∧ t' = { t with pos := t.pos + (layT y).length } ∧ left' = left - y.parts
def SomeGoal (l : List TV) : Prop := ∀ (rest : List UInt8) (t : TS) (left : Int) (xs : List TV) (t' : TS) (left' : Int), t.fault = 0 → t.bytes.drop t.pos = layTs l ++ rest → TV.isL l = true → (TV.partsL l : Int) ≤ left → left ≤ 1000000 → SomeR l.length t left xs t' left' →
  xs = l ∧ t' = { t with pos := t.pos + (layTs l).length } ∧ left' = left - TV.partsL l
theorem some_nil : SomeGoal [] := by
  intro rest t left xs t' left' hf hd _ hl _ hR
  cases hR with
  | stop h => exact ⟨rfl, by simp [layTs], by simp [TV.partsL]⟩
  | more h _ _ => exact absurd h.1 (by simp)
theorem some_cons {y : TV} {l : List TV} (hy : TermGoal y) (hl : SomeGoal l) : SomeGoal (y :: l) := by
  intro rest t left xs t' left' hf hd hT hp h6 hR
  simp only [TV.isL, Bool.and_eq_true] at hT
  simp only [TV.partsL] at hp
  simp only [layTs, List.append_assoc] at hd
  have hyp := y.parts_pos
  cases hR with
  | stop h => exact absurd ⟨by simp, hf, by omega⟩ h
  | more h hx hr =>
    obtain ⟨rfl, rfl, rfl⟩ := hy _ _ _ _ _ _ hf hd hT.1 (by omega) h6 hx
    obtain ⟨e1, rfl, rfl⟩ := hl rest { t with pos := t.pos + (layT _).length } _ _ _ _ hf (drop_more hd) hT.2 (by omega) (by omega) hr
    obtain rfl := e1.symm
    refine ⟨rfl, ?_, ?_⟩
    · simp only [layTs, List.length_append, TS.mk.injEq, true_and, and_true]; omega
    · simp only [TV.partsL]; push_cast; omega
theorem term_one {k n : Int} {s : List UInt8} {l : List TV} (hl : SomeGoal l) : TermGoal (.mk k n s l) := by
  intro rest t left x t' left' hf hd hT hp h6 hR
  simp only [TV.isT, Bool.and_eq_true] at hT
  simp only [TV.parts] at hp
  have hlp := len_parts l
  simp only [layT, List.append_assoc] at hd
  have hlen : ∀ a : List UInt8, a = layH k n s l.length → (layT (.mk k n s l)).length = a.length + (layTs l).length := fun a h => by rw [h]; simp only [layT, List.length_append]
  rcases head_cases hT.1 with ⟨rfl, a1, a2, a3, rfl⟩ | ⟨rfl, a1, a2, a3, rfl⟩ | ⟨hk, a1, a2, a3, rfl⟩ | ⟨rfl, a1, a2, rfl⟩ | ⟨rfl, rfl, rfl⟩ | ⟨rfl, a1, rfl, rfl⟩ | ⟨rfl, a1, rfl, rfl⟩
  · obtain rfl := List.eq_nil_of_length_eq_zero a3
    obtain ⟨hb, hd1⟩ := byte_at hf (show t.bytes.drop t.pos = 1 :: (laidI n ++ rest) by rw [hd]; simp [layH, layTs])
    have hi := int_at (t := { t with pos := t.pos + 1 }) hf (by omega) (by omega) hd1
    cases hR <;> simp only [hb] at * <;> first | (rename_i h; exact absurd h (by decide)) | (rename_i h _; exact absurd h (by decide)) | skip
    · rw [hi]
      refine ⟨rfl, ?_, by simp [TV.parts, TV.partsL]⟩
      rw [hlen (1 :: laidI n) (by simp [layH])]
      simp only [layTs, TS.mk.injEq, true_and, and_true, List.length_cons, List.length_nil]; omega
  · obtain rfl := List.eq_nil_of_length_eq_zero a3
    obtain ⟨hb, hd1⟩ := byte_at hf (show t.bytes.drop t.pos = 2 :: (laidS s ++ rest) by rw [hd]; simp [layH, layTs])
    have hi := str_at (t := { t with pos := t.pos + 1 }) (most := 255) hf (by omega) (by omega) hd1
    cases hR <;> simp only [hb] at * <;> first | (rename_i h; exact absurd h (by decide)) | (rename_i h _; exact absurd h (by decide)) | skip
    · rw [hi]
      refine ⟨rfl, ?_, by simp [TV.parts, TV.partsL]⟩
      rw [hlen (2 :: laidS s) (by simp [layH])]
      simp only [layTs, TS.mk.injEq, true_and, and_true, List.length_cons, List.length_nil]; omega
  · obtain rfl := List.eq_nil_of_length_eq_zero a3
    obtain ⟨m, rfl⟩ := Int.eq_ofNat_of_zero_le a1
    have hi : ∀ r, t.bytes.drop (t.pos + 1) = laidB m 0 ++ r → _ := fun r h => number_at (t := { t with pos := t.pos + 1 }) hf (by omega) h
    have hmm : i64 m = m := i64_small (by omega)
    rcases hk with rfl | rfl
    · obtain ⟨hb, hd1⟩ := byte_at hf (show t.bytes.drop t.pos = 3 :: (laidB m 0 ++ rest) by rw [hd]; simp [layH, layTs])
      have hi := hi _ hd1
      cases hR <;> simp only [hb] at * <;> first | (rename_i h; exact absurd h (by decide)) | (rename_i h _; exact absurd h (by decide)) | skip
      · rw [hi]
        simp only [hmm]
        refine ⟨rfl, ?_, by simp [TV.parts, TV.partsL]⟩
        rw [hlen (3 :: laidB m 0) (by simp [layH])]
        simp only [layTs, TS.mk.injEq, true_and, and_true, List.length_cons, List.length_nil, laidB_len]; omega
    · obtain ⟨hb, hd1⟩ := byte_at hf (show t.bytes.drop t.pos = 5 :: (laidB m 0 ++ rest) by rw [hd]; simp [layH, layTs])
      have hi := hi _ hd1
      cases hR <;> simp only [hb] at * <;> first | (rename_i h; exact absurd h (by decide)) | (rename_i h _; exact absurd h (by decide)) | skip
      · rw [hi]
        simp only [hmm]
        refine ⟨rfl, ?_, by simp [TV.parts, TV.partsL]⟩
        rw [hlen (5 :: laidB m 0) (by simp [layH])]
        simp only [layTs, TS.mk.injEq, true_and, and_true, List.length_cons, List.length_nil, laidB_len]; omega
  · obtain ⟨m, rfl⟩ := Int.eq_ofNat_of_zero_le a1
    have hmm : i64 m = m := i64_small (by omega)
    obtain ⟨hb, hd1⟩ := byte_at hf (show t.bytes.drop t.pos = 4 :: (laidB m 0 ++ (laidB l.length 0 ++ (layTs l ++ rest))) by rw [hd]; simp [layH])
    have hi := number_at (t := { t with pos := t.pos + 1 }) hf (by omega) hd1
    have hd2 := drop_more hd1
    rw [laidB_len] at hd2
    have hj := number_at (t := { t with pos := t.pos + 1 + (wid m + 1) }) hf (by omega) hd2
    have hd3 := drop_more hd2
    rw [laidB_len] at hd3
    cases hR <;> simp only [hb] at * <;> first | (rename_i h; exact absurd h (by decide)) | (rename_i h _; exact absurd h (by decide)) | skip
    · rename_i xs hs
      simp only [hi, hj] at hs ⊢
      obtain ⟨e1, rfl, rfl⟩ := hl rest { t with pos := t.pos + 1 + (wid m + 1) + (wid l.length + 1) } _ _ _ _ hf hd3 hT.2 (by omega) (by omega) hs
      obtain rfl := e1.symm
      rw [hmm]
      refine ⟨rfl, ?_, by simp only [TV.parts]; push_cast; omega⟩
      rw [hlen (4 :: (laidB m 0 ++ laidB l.length 0)) (by simp [layH])]
      simp only [TS.mk.injEq, true_and, and_true, List.length_cons, List.length_append, laidB_len]; omega
  · obtain ⟨hb, hd1⟩ := byte_at hf (show t.bytes.drop t.pos = 6 :: (laidB l.length 0 ++ (layTs l ++ rest)) by rw [hd]; simp [layH])
    have hj := number_at (t := { t with pos := t.pos + 1 }) hf (by omega) hd1
    have hd3 := drop_more hd1
    rw [laidB_len] at hd3
    cases hR <;> simp only [hb] at * <;> first | (rename_i h; exact absurd h (by decide)) | (rename_i h _; exact absurd h (by decide)) | skip
    · rename_i xs hs
      simp only [hj] at hs ⊢
      obtain ⟨e1, rfl, rfl⟩ := hl rest { t with pos := t.pos + 1 + (wid l.length + 1) } _ _ _ _ hf hd3 hT.2 (by omega) (by omega) hs
      obtain rfl := e1.symm
      refine ⟨rfl, ?_, by simp only [TV.parts]; push_cast; omega⟩
      rw [hlen (6 :: laidB l.length 0) (by simp [layH])]
      simp only [TS.mk.injEq, true_and, and_true, List.length_cons, laidB_len]; omega
  · obtain rfl := List.eq_nil_of_length_eq_zero a1
    obtain ⟨hb, hd1⟩ := byte_at hf (show t.bytes.drop t.pos = 7 :: rest by rw [hd]; simp [layH, layTs])
    cases hR <;> simp only [hb] at * <;> first | (rename_i h; exact absurd h (by decide)) | (rename_i h _; exact absurd h (by decide)) | skip
    · refine ⟨rfl, ?_, by simp [TV.parts, TV.partsL]⟩
      rw [hlen [7] (by simp [layH])]
      simp [layTs]
  · obtain ⟨hb, hd1⟩ := byte_at hf (show t.bytes.drop t.pos = 8 :: (layTs l ++ rest) by rw [hd]; simp [layH])
    cases hR <;> simp only [hb] at * <;> first | (rename_i h; exact absurd h (by decide)) | (rename_i h _; exact absurd h (by decide)) | skip
    · rename_i xs hs
      rw [← a1] at hs
      obtain ⟨e1, rfl, rfl⟩ := hl rest { t with pos := t.pos + 1 } _ _ _ _ hf hd1 hT.2 (by omega) (by omega) hs
      obtain rfl := e1.symm
      refine ⟨rfl, ?_, by simp only [TV.parts]; push_cast; omega⟩
      rw [hlen [8] (by simp [layH])]
      simp only [TS.mk.injEq, true_and, and_true, List.length_cons, List.length_nil]; omega
mutual
theorem term_goal : ∀ y : TV, TermGoal y
  | .mk k n s l => term_one (some_goal l)
theorem some_goal : ∀ l : List TV, SomeGoal l
  | [] => some_nil
  | y :: l => some_cons (term_goal y) (some_goal l)
end
end Go.Proofs.Ytommadcjemljcaa
