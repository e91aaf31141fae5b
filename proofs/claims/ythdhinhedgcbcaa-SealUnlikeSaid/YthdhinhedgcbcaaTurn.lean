/- A sealed block with bits turned is refused: the plain law. -/
import Derived.Test.YthdhinhedgcbcaaBurst
import Derived.Test.YthdhinhedgcbcaaSealLaw
namespace Go.Proofs.Ythdhinhedgcbcaa
set_option linter.unusedVariables false

/-- The bytes behind k rounds of turning. -/
def turnK (l : List UInt8) (a mask : Nat) : Nat → List UInt8
  | 0 => l
  | k + 1 => if mask.testBit k then (turnK l a mask k).set ((a + k) / 8) (UInt8.ofNat (((turnK l a mask k).getD ((a + k) / 8) 0).toNat ^^^ 2 ^ ((a + k) % 8))) else turnK l a mask k
/-- Was a bit turned in k rounds? -/
def turnedK (mask : Nat) : Nat → Bool
  | 0 => false
  | k + 1 => if mask.testBit k then true else turnedK mask k

theorem turnK_length (l : List UInt8) (a mask k : Nat) : (turnK l a mask k).length = l.length := by
  induction k with
  | zero => rfl
  | succ k ih => unfold turnK; split <;> simp [ih]
theorem turnedK_some (mask k : Nat) (h : turnedK mask k = true) : ∃ j, j < k ∧ mask.testBit j = true := by
  induction k with
  | zero => cases h
  | succ k ih =>
    unfold turnedK at h
    split at h
    · exact ⟨k, by omega, by assumption⟩
    · obtain ⟨j, hj, hb⟩ := ih h
      exact ⟨j, by omega, hb⟩
theorem turnK_same (l : List UInt8) (a mask k : Nat) (h : turnedK mask k = false) : turnK l a mask k = l := by
  induction k with
  | zero => rfl
  | succ k ih =>
    unfold turnedK at h
    unfold turnK
    split at h
    · cases h
    · rename_i hb
      rw [if_neg hb]
      exact ih h
theorem turnK_append (l t : List UInt8) (a mask k : Nat) (h : a + k ≤ 8 * l.length) : turnK (l ++ t) a mask k = turnK l a mask k ++ t := by
  induction k with
  | zero => rfl
  | succ k ih =>
    have hlen := turnK_length l a mask k
    unfold turnK
    rw [ih (by omega)]
    split
    · rw [List.set_append_left _ _ (by omega)]
      congr 3
      rw [List.getD_eq_getElem?_getD, List.getD_eq_getElem?_getD, List.getElem?_append_left (by omega)]
    · rfl

theorem bits_set (l : List UInt8) (p x s i : Nat) (hp : p < l.length) (hs : s < 8) (hx : (l.getD p 0).toNat = x) : bitsOf (l.set p (UInt8.ofNat (x ^^^ 2 ^ s))) i = (bitsOf l i ^^ decide (i = 8 * p + s)) := by
  have hx2 : x < 2 ^ 8 := by rw [← hx]; exact UInt8.toNat_lt _
  unfold bitsOf
  by_cases hip : i / 8 = p
  · have e1 : (l.set p (UInt8.ofNat (x ^^^ 2 ^ s))).getD (i / 8) 0 = UInt8.ofNat (x ^^^ 2 ^ s) := by rw [hip]; simp [hp]
    have e2 : (UInt8.ofNat (x ^^^ 2 ^ s)).toNat = x ^^^ 2 ^ s := by
      have h1 : x ^^^ 2 ^ s < 2 ^ 8 := Nat.xor_lt_two_pow hx2 (Nat.pow_lt_pow_right (by omega) hs)
      simp only [UInt8.toNat_ofNat']
      exact Nat.mod_eq_of_lt h1
    rw [e1, e2, Nat.testBit_xor, Nat.testBit_two_pow, hip, hx]
    congr 1
    rw [decide_eq_decide]
    omega
  · have e1 : (l.set p (UInt8.ofNat (x ^^^ 2 ^ s))).getD (i / 8) 0 = l.getD (i / 8) 0 := by
      rw [List.getD_eq_getElem?_getD, List.getElem?_set_ne (by omega), ← List.getD_eq_getElem?_getD]
    have e2 : ¬ i = 8 * p + s := by omega
    rw [e1]
    simp [e2]

theorem bits_turn (l : List UInt8) (a mask : Nat) (k : Nat) (h : a + k ≤ 8 * l.length) (i : Nat) : bitsOf (turnK l a mask k) i = (bitsOf l i ^^ (decide (a ≤ i ∧ i < a + k) && mask.testBit (i - a))) := by
  induction k with
  | zero =>
    have h0 : decide (a ≤ i ∧ i < a + 0) = false := by rw [decide_eq_false_iff_not]; omega
    rw [h0]
    simp [turnK]
  | succ k ih =>
    have hlen := turnK_length l a mask k
    unfold turnK
    split
    · rename_i hb
      rw [bits_set _ _ _ _ _ (by omega) (Nat.mod_lt _ (by omega)) rfl, ih (by omega)]
      by_cases hi : i = a + k
      · subst hi
        have e1 : ¬ (a ≤ a + k ∧ a + k < a + k) := by omega
        have e2 : a + k = 8 * ((a + k) / 8) + (a + k) % 8 := by omega
        rw [decide_eq_true (show a + k = 8 * ((a + k) / 8) + (a + k) % 8 from e2)]
        have e3 : decide (a ≤ a + k ∧ a + k < a + k) = false := by simp
        have e4 : decide (a ≤ a + k ∧ a + k < a + (k + 1)) = true := by simp
        rw [e3, e4, Nat.add_sub_cancel_left, hb]
        simp
      · have e2 : ¬ i = 8 * ((a + k) / 8) + (a + k) % 8 := by omega
        have e3 : decide (a ≤ i ∧ i < a + (k + 1)) = decide (a ≤ i ∧ i < a + k) := by rw [decide_eq_decide]; omega
        rw [e3]
        simp [e2]
    · rename_i hb
      rw [ih (by omega)]
      by_cases hi : i = a + k
      · subst hi
        rw [Nat.add_sub_cancel_left]
        simp [hb]
      · have e3 : decide (a ≤ i ∧ i < a + (k + 1)) = decide (a ≤ i ∧ i < a + k) := by rw [decide_eq_decide]; omega
        rw [e3]

theorem putP_some {l : List UInt8} {k num : Nat} {load : List UInt8} (h : putP l.length k num load = (0, l)) : 64 ≤ l.length ∧ l.length ≤ 4096 ∧ k ≠ 0 ∧ load.length + 15 ≤ l.length ∧ l = sealed l.length k num load := by
  unfold putP at h
  split at h
  · cases h
  · rename_i h1
    split at h
    · cases h
    · rename_i h2
      injection h with _ h3
      have hr : room (l.length : Int) ≠ 0 := fun e => h1 (.inl e)
      have hk : k ≠ 0 := fun e => h1 (.inr e)
      have h4 : 64 ≤ l.length ∧ l.length ≤ 4096 := by
        unfold room at hr
        split at hr
        · exact absurd rfl hr
        · split at hr
          · exact absurd rfl hr
          · omega
      rw [room_is h4.1 h4.2] at h2
      exact ⟨h4.1, h4.2, hk, by omega, by simpa using h3.symm⟩

theorem crc_of_be (x y : Nat) (hx : x < 4294967296) (hy : y < 4294967296) (h : be 4 x = be 4 y) : x = y := by
  have h1 := told_be 4 x (by omega)
  have h2 := told_be 4 y (by omega)
  rw [h] at h1
  rw [h1] at h2
  have e : (256 : Nat) ^ 4 = 4294967296 := by decide
  rw [e, Nat.mod_eq_of_lt hx, Nat.mod_eq_of_lt hy] at h2
  exact h2

/-- A BLOCK WITH BITS TURNED WITHIN 32 NEIGHBOURING ONES IS REFUSED. -/
theorem get_turned {size kind num : Nat} {load : List UInt8} (h64 : 64 ≤ size) (hl : load.length + 15 ≤ size) (a mask K : Nat) (hK : K ≤ 32) (ha : a + K ≤ 8 * (size - 4)) (ht : turnedK mask K = true) :
    getP (turnK (sealed size kind num load) a mask K) = none := by
  cases hg : getP (turnK (sealed size kind num load) a mask K) with
  | none => rfl
  | some r =>
    exfalso
    obtain ⟨k', num', load'⟩ := r
    have hb := sealBody_len (kind := kind) (num := num) h64 hl
    have hlen : (turnK (sealed size kind num load) a mask K).length = size := by rw [turnK_length, sealed_len h64 hl]
    obtain ⟨h1, h2, h3, h4, h5⟩ := putP_some (get_some hg)
    rw [hlen] at h1 h2 h4 h5
    have hb' := sealBody_len (kind := k') (num := num') h1 h4
    unfold sealed at h5
    rw [turnK_append _ _ _ _ _ (by rw [hb]; exact ha)] at h5
    have hsp := List.append_inj h5 (by rw [turnK_length, hb, hb'])
    have hcrc := crc_of_be _ _ (crc_lt _) (crc_lt _) hsp.2
    rw [← hsp.1] at hcrc
    obtain ⟨j, hj, hjb⟩ := turnedK_some mask K ht
    have hbits := bits_turn (sealBody size kind num load) a mask K (by rw [hb]; exact ha)
    refine crc_burst (sealBody size kind num load) (turnK (sealBody size kind num load) a mask K) (by rw [turnK_length]) a j (by omega) ?_ ?_ hcrc
    · rw [hbits, Nat.add_sub_cancel_left, hjb, decide_eq_true (show a ≤ a + j ∧ a + j < a + K from ⟨by omega, by omega⟩)]
      simp
    · intro i hi
      rw [hbits] at hi
      by_cases hc : a ≤ i ∧ i < a + K
      · omega
      · simp [hc] at hi
end Go.Proofs.Ythdhinhedgcbcaa
