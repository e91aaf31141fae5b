/- A text that is read takes bytes. No function of the program is named here. -/
import Derived.Test.YtcnhfbckaacalaaTapeC
namespace Go.Proofs.Ytcnhfbckaacalaa
open Go.RowKit
set_option linter.unusedVariables false
theorem rest_pos {t : TS} {wd : Nat} {b : Bool} (hp : t.pos < t.bytes.length) (h0 : t.fault = 0) (h : (t.rest wd b).2.fault = 0) : t.pos < (t.rest wd b).2.pos ∧ (t.rest wd b).2.pos ≤ t.bytes.length ∧ (t.rest wd b).2.bytes = t.bytes := by
  unfold TS.rest at h ⊢
  split at h
  · simp [TS.stops] at h
  · split at h
    · simp [TS.stops] at h
    · split at h
      · simp [TS.stops] at h
      · rename_i h1 h2 h3
        rw [if_neg h1, if_neg h2, if_neg h3]
        refine ⟨by simp only; omega, by simp only; omega, rfl⟩
theorem number_pos {t : TS} (h0 : t.fault = 0) (h : (t.number false).2.fault = 0) : t.pos < (t.number false).2.pos ∧ (t.number false).2.pos ≤ t.bytes.length ∧ (t.number false).2.bytes = t.bytes := by
  unfold TS.number at h ⊢
  rw [if_pos h0] at h ⊢
  cases hg : t.bytes[t.pos]? with
  | none =>
    rw [hg] at h
    simp [TS.stops] at h
  | some x =>
    rw [hg] at h
    have hp : t.pos < t.bytes.length := (List.getElem?_eq_some_iff.1 hg).1
    simp only at h ⊢
    rw [if_neg (by simp)] at h ⊢
    exact rest_pos hp h0 h
theorem str_pos {t : TS} {most : Int} (h0 : t.fault = 0) (h : (t.str most).2.fault = 0) : t.pos < (t.str most).2.pos ∧ (t.str most).2.pos ≤ t.bytes.length ∧ (t.str most).2.bytes = t.bytes := by
  unfold TS.str at h ⊢
  by_cases hf : (t.number false).2.fault ≠ 0
  · rw [if_pos hf] at h
    exact absurd h hf
  · have hf0 : (t.number false).2.fault = 0 := by omega
    obtain ⟨h1, h2, h3⟩ := number_pos h0 hf0
    rw [if_neg hf] at h ⊢
    split at h
    · simp [TS.stops] at h
    · split at h
      · simp [TS.stops] at h
      · rename_i h5 h6
        rw [if_neg h5, if_neg h6]
        refine ⟨by simp only; omega, ?_, h3⟩
        simp only
        rw [h3] at h6
        omega
theorem str_len {t : TS} {most : Int} (h0 : t.fault = 0) (h : (t.str most).2.fault = 0) : (t.str most).1.length ≤ t.bytes.length := by
  unfold TS.str at h ⊢
  by_cases hf : (t.number false).2.fault ≠ 0
  · rw [if_pos hf] at h
    exact absurd h hf
  · have hf0 : (t.number false).2.fault = 0 := by omega
    obtain ⟨h1, h2, h3⟩ := number_pos h0 hf0
    rw [if_neg hf] at h ⊢
    split at h
    · simp [TS.stops] at h
    · split at h
      · simp [TS.stops] at h
      · rename_i h5 h6
        rw [if_neg h5, if_neg h6]
        simp only
        rw [List.length_take, List.length_drop, h3]
        omega
end Go.Proofs.Ytcnhfbckaacalaa
