/- Plain laws of a journal's stream: the records of a beginning of laid records. No program is named here. -/
import Derived.Test.YtcnhfbckaacalaaJouE
import Derived.Test.YtcnhfbckaacalaaBackL
namespace Go.Proofs.Ytcnhfbckaacalaa
open Go.RowKit
set_option linter.unusedVariables false

theorem str_cut_any {t : TS} {s : List UInt8} {most : Int} {k : Nat} (hf : t.fault = 0) (hs : s.length < 18446744073709551616) (hk : k < (laidS s).length) (h : t.bytes.drop t.pos = (laidS s).take k) :
    (t.str most).2.fault ≠ 0 := by
  unfold laidS at h hk
  by_cases hc : k < (laidB s.length 0).length
  · rw [List.take_append_of_le_length (by omega)] at h
    have hx := number_cut hf hc h
    unfold TS.str
    rw [hx]
    simp only
    rw [if_pos (by show (3 : Nat) ≠ 0; omega)]
    show (3 : Nat) ≠ 0
    omega
  · rw [List.take_append, List.take_of_length_le (by omega)] at h
    have hx := number_at hf hs h
    have hd : t.bytes.drop (t.pos + (wid s.length + 1)) = s.take (k - (laidB s.length 0).length) := by
      rw [← List.drop_drop, h, List.drop_append_of_le_length (by rw [laidB_len]; omega), List.drop_of_length_le (by rw [laidB_len]; omega)]
      rfl
    rw [laidB_len] at hd hc
    rw [List.length_append, laidB_len] at hk
    have hl : t.bytes.length - (t.pos + (wid s.length + 1)) ≤ k - (wid s.length + 1) := by
      have := congrArg List.length hd
      simp at this
      omega
    unfold TS.str
    rw [hx]
    simp only
    rw [if_neg (by simp [hf])]
    split
    · show (1 : Nat) ≠ 0
      omega
    · rw [if_pos (by omega)]
      show (3 : Nat) ≠ 0
      omega
theorem laidS_pos (s : List UInt8) : 0 < (laidS s).length := by
  unfold laidS; rw [List.length_append, laidB_len]; omega
theorem laidSs_cons (s : List UInt8) (ss : List (List UInt8)) : laidSs (s :: ss) = laidS s ++ laidSs ss := by simp [laidSs]
theorem laidSs_app (a b : List (List UInt8)) : laidSs (a ++ b) = laidSs a ++ laidSs b := by simp [laidSs]
theorem laidSs_mono (all : List (List UInt8)) {j k : Nat} (h : j ≤ k) : (laidSs (all.take j)).length ≤ (laidSs (all.take k)).length := by
  have e : all.take k = all.take j ++ (all.take k).drop j := by
    have := List.take_append_drop j (all.take k)
    rw [List.take_take, Nat.min_eq_left h] at this
    exact this.symm
  rw [e, laidSs_app, List.length_append]; omega
theorem laidSs_lt (all : List (List UInt8)) {j k : Nat} (h : j < k) (hk : k ≤ all.length) : (laidSs (all.take j)).length < (laidSs (all.take k)).length := by
  have h1 := laidSs_mono all (show j + 1 ≤ k from h)
  have h2 : all.take (j + 1) = all.take j ++ [all[j]'(by omega)] := List.take_succ_eq_append_getElem (by omega)
  rw [h2, laidSs_snoc, List.length_append] at h1
  have := laidS_pos (all[j]'(by omega))
  omega
theorem jrecs_laid (most : Int) : ∀ (rest : List (List UInt8)) (k : Nat) (t : TS) (out : List (List UInt8)) (m : Nat), (∀ s ∈ rest, s.length < 18446744073709551616) → t.fault = 0 → (t.bytes.length : Int) ≤ most → m ≤ (laidSs rest).length → t.bytes.drop t.pos = (laidSs rest).take m → m < k →
    ∃ j, j ≤ rest.length ∧ jrecs (fun t => t.str most) k t out t.pos = (out ++ rest.take j, t.pos + (laidSs (rest.take j)).length) ∧ (laidSs (rest.take j)).length ≤ m ∧ (j < rest.length → m < (laidSs (rest.take (j + 1))).length)
  | [], k, t, out, m, hs, hf, hm, hml, hd, hk => by
    obtain ⟨k', rfl⟩ : ∃ k', k = k' + 1 := ⟨k - 1, by omega⟩
    have h1 := congrArg List.length hd
    simp [laidSs] at h1
    refine ⟨0, Nat.le_refl _, ?_, by simp [laidSs], fun h => by simp at h⟩
    rw [jrecs_end (.inl (by omega))]
    simp [laidSs]
  | s :: rest, k, t, out, m, hs, hf, hm, hml, hd, hk => by
    obtain ⟨k', rfl⟩ : ∃ k', k = k' + 1 := ⟨k - 1, by omega⟩
    have h1 := congrArg List.length hd
    rw [List.length_drop, List.length_take, Nat.min_eq_left hml] at h1
    have hpos := laidS_pos s
    by_cases hc : m < (laidS s).length
    · refine ⟨0, Nat.zero_le _, ?_, by simp [laidSs], fun _ => by simpa [laidSs] using hc⟩
      have hstop : t.bytes.length - t.pos = 0 ∨ (t.str most).2.fault ≠ 0 := by
        by_cases h0 : m = 0
        · exact .inl (by omega)
        · refine .inr (str_cut_any hf (hs s (by simp)) hc ?_)
          rw [hd, laidSs_cons, List.take_append_of_le_length (by omega)]
      rw [jrecs_end hstop]
      simp [laidSs]
    · have hd2 : t.bytes.drop t.pos = laidS s ++ (laidSs rest).take (m - (laidS s).length) := by
        rw [hd, laidSs_cons, List.take_append, List.take_of_length_le (by omega)]
      have hsl : s.length ≤ (laidS s).length := by unfold laidS; rw [List.length_append]; omega
      have hst := str_at (t := t) (most := most) hf (hs s (by simp)) (by omega) hd2
      have hml2 : m - (laidS s).length ≤ (laidSs rest).length := by
        rw [laidSs_cons, List.length_append] at hml; omega
      obtain ⟨j, hj, he, hle, hmx⟩ := jrecs_laid most rest k' { t with pos := t.pos + (laidS s).length } (out ++ [s]) (m - (laidS s).length) (fun x hx => hs x (List.mem_cons_of_mem _ hx)) hf hm hml2
        (by show t.bytes.drop (t.pos + (laidS s).length) = _; rw [← List.drop_drop, hd2, List.drop_left' rfl]) (by omega)
      refine ⟨j + 1, by simp; omega, ?_, ?_, fun h => ?_⟩
      · rw [jrecs_more (by omega) (by show (t.str most).2.fault = 0; rw [hst]; exact hf)]
        show jrecs _ _ (t.str most).2 (out ++ [(t.str most).1]) (t.str most).2.pos = _
        rw [hst]
        simp only at he ⊢
        rw [he, List.take_succ_cons, laidSs_cons, List.length_append, List.append_assoc, Nat.add_assoc]
        rfl
      · rw [List.take_succ_cons, laidSs_cons, List.length_append]; omega
      · have := hmx (by simp at h; omega)
        rw [List.take_succ_cons, laidSs_cons, List.length_append]
        omega
/-- The records of a beginning of laid records. -/
theorem recs_take (all : List (List UInt8)) (n : Nat) (hs : ∀ s ∈ all, s.length < 18446744073709551616) (hn : n ≤ (laidSs all).length) :
    ∃ k, k ≤ all.length ∧ jopenRecs ((laidSs all).take n) = (all.take k, (laidSs (all.take k)).length) ∧ (laidSs (all.take k)).length ≤ n ∧ (k < all.length → n < (laidSs (all.take (k + 1))).length) := by
  have hl : ((laidSs all).take n).length = n := by rw [List.length_take]; omega
  obtain ⟨j, h1, h2, h3, h4⟩ := jrecs_laid (n : Int) all (n + 1) ⟨(laidSs all).take n, 0, 0, 0⟩ [] n hs rfl (by show ((((laidSs all).take n).length : Nat) : Int) ≤ _; rw [hl]; exact Int.le_refl _) hn (by simp) (by omega)
  refine ⟨j, h1, ?_, h3, h4⟩
  unfold jopenRecs
  rw [hl]
  simp only at h2
  rw [h2]
  simp
end Go.Proofs.Ytcnhfbckaacalaa
