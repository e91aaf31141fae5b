/- Plain laws of layer 1: how many bytes a number has; how it is laid. No program is named here. -/
import Derived.Test.YtefnjplfemgibaaBase
import Derived.Lib.BitFns
namespace Go.Proofs.Ytefnjplfemgibaa
open Go.RowKit
set_option linter.unusedVariables false

def widF : Nat → Nat → Nat
  | 0, _ => 0
  | k + 1, n => if n = 0 then 0 else widF k (n / 256) + 1
/-- How many bytes a number has. -/
def wid (n : Nat) : Nat := widF 8 n

theorem widF_bits : ∀ (k n : Nat), k ≤ 8 → n < 256 ^ k → widF k n = (Lib.bitLen n + 7) / 8
  | 0, n, _, h => by
    obtain rfl : n = 0 := by simpa using h
    rfl
  | k + 1, n, hk, h => by
    unfold widF
    by_cases h0 : n = 0
    · subst h0; rfl
    · rw [if_neg h0]
      have h8 : n < 18446744073709551616 := Nat.lt_of_lt_of_le h (by have := Nat.pow_le_pow_right (show 0 < 256 by omega) (show k + 1 ≤ 8 by omega); omega)
      have ih := widF_bits k (n / 256) (by omega) (by rw [Nat.pow_succ] at h; omega)
      rw [ih]
      by_cases hs : n < 256
      · have e : n / 256 = 0 := by omega
        rw [e]
        have h1 : Lib.bitLen n ≤ 8 := Lib.bitLen_le8 ⟨n, hs⟩
        have h2 := Lib.bitLen_half n h0 (by omega)
        have h3 : Lib.bitLen 0 = 0 := rfl
        rw [h3]
        omega
      · rw [Lib.bitLen_shift8 n (by omega) h8]
        omega
theorem wid_bits (n : Nat) (h : n < 18446744073709551616) : (Lib.bitLen n + 7) / 8 = wid n := (widF_bits 8 n (by omega) (by omega)).symm
theorem widF_le : ∀ (k n : Nat), widF k n ≤ k
  | 0, _ => Nat.le_refl _
  | k + 1, n => by
    unfold widF
    split
    · omega
    · have := widF_le k (n / 256); omega
theorem wid_le (n : Nat) : wid n ≤ 8 := widF_le 8 n
theorem widF_lt : ∀ (k n : Nat), n < 256 ^ k → n < 256 ^ widF k n
  | 0, n, h => h
  | k + 1, n, h => by
    unfold widF
    by_cases h0 : n = 0
    · subst h0; simp
    · rw [if_neg h0, Nat.pow_succ]
      have := widF_lt k (n / 256) (by rw [Nat.pow_succ] at h; omega)
      omega
theorem wid_lt (n : Nat) (h : n < 18446744073709551616) : n < 256 ^ wid n := widF_lt 8 n (by omega)
theorem widF_ge : ∀ (k n j : Nat), n < 256 ^ k → widF k n = j + 1 → 256 ^ j ≤ n
  | 0, n, j, _, h => by simp [widF] at h
  | k + 1, n, j, hn, h => by
    unfold widF at h
    by_cases h0 : n = 0
    · rw [if_pos h0] at h; omega
    · rw [if_neg h0] at h
      rcases j with _ | j
      · simp; omega
      · have := widF_ge k (n / 256) j (by rw [Nat.pow_succ] at hn; omega) (by omega)
        rw [Nat.pow_succ]
        omega
theorem wid_ge {n j : Nat} (h : n < 18446744073709551616) (hw : wid n = j + 1) : 256 ^ j ≤ n := widF_ge 8 n j (by omega) hw
theorem wid_of {n k : Nat} (h : n < 18446744073709551616) (h1 : n < 256 ^ k) (h2 : ∀ j, k = j + 1 → 256 ^ j ≤ n) : wid n = k := by
  rcases Nat.lt_trichotomy (wid n) k with hlt | he | hgt
  · have h3 := wid_lt n h
    obtain ⟨j, rfl⟩ : ∃ j, k = j + 1 := ⟨k - 1, by omega⟩
    have h4 := h2 j rfl
    have := Nat.pow_le_pow_right (show 0 < 256 by omega) (show wid n ≤ j by omega)
    omega
  · exact he
  · obtain ⟨j, hj⟩ : ∃ j, wid n = j + 1 := ⟨wid n - 1, by omega⟩
    have h4 := wid_ge h hj
    have := Nat.pow_le_pow_right (show 0 < 256 by omega) (show k ≤ j by omega)
    omega
theorem wid_mono {a b : Nat} (hb : b < 18446744073709551616) (h : a ≤ b) : wid a ≤ wid b := by
  rcases Nat.lt_or_ge (wid b) (wid a) with hlt | hge
  · obtain ⟨j, hj⟩ : ∃ j, wid a = j + 1 := ⟨wid a - 1, by omega⟩
    have h1 := wid_ge (Nat.lt_of_le_of_lt h hb) hj
    have h2 := wid_lt b hb
    have := Nat.pow_le_pow_right (show 0 < 256 by omega) (show wid b ≤ j by omega)
    omega
  · exact hge

/-- A number as it is laid, with so much more in its first byte. -/
def laidB (n more : Nat) : List UInt8 := UInt8.ofNat (wid n + more) :: be (wid n) n
theorem laidB_len (n more : Nat) : (laidB n more).length = wid n + 1 := by simp [laidB, be_length]

/-- The byte of be at an index. -/
theorem be_get : ∀ (k n i : Nat) (h : i < (be k n).length), (be k n)[i] = UInt8.ofNat (n / 256 ^ (k - 1 - i))
  | 0, n, i, h => by simp [be] at h
  | k + 1, n, i, h => by
    rcases i with _ | i
    · simp [be]
    · simp only [be, List.getElem_cons_succ]
      rw [be_get k n i (by simpa [be] using h)]
      congr 3
      omega
theorem be_take_succ (k n i : Nat) (h : i < k) : (be k n).take (i + 1) = (be k n).take i ++ [UInt8.ofNat (n / 256 ^ (k - 1 - i))] := by
  rw [List.take_succ_eq_append_getElem (by rw [be_length]; exact h), be_get]

/-- What be lays is told back. -/
theorem told_be : ∀ (k n : Nat), k ≤ 8 → toldN (be k n) = n % 256 ^ k
  | 0, n, _ => by simp [be, toldN, Nat.mod_one]
  | k + 1, n, hk => by
    have h : be (k + 1) n = be k (n / 256) ++ [UInt8.ofNat n] := by
      apply List.ext_getElem
      · simp [be_length]
      · intro i h1 h2
        rw [be_get]
        rw [be_length] at h1
        by_cases hi : i < k
        · rw [List.getElem_append_left (by rw [be_length]; exact hi), be_get, Nat.div_div_eq_div_mul, ← Nat.pow_succ']
          congr 3
          omega
        · rw [List.getElem_append_right (by rw [be_length]; omega)]
          obtain rfl : i = k := by omega
          simp
    rw [h, toldN_snoc, told_be k (n / 256) (by omega)]
    have hp : 256 ^ k ≤ 72057594037927936 := by
      have := Nat.pow_le_pow_right (show 0 < 256 by omega) (show k ≤ 7 by omega)
      simpa using this
    have hm : n / 256 % 256 ^ k < 256 ^ k := Nat.mod_lt _ (Nat.pow_pos (by omega))
    rw [Nat.mod_eq_of_lt (show n / 256 % 256 ^ k * 256 < 18446744073709551616 by omega)]
    rw [Nat.pow_succ, Nat.mul_comm (256 ^ k) 256, Nat.mod_mul]
    simp
    omega
end Go.Proofs.Ytefnjplfemgibaa
