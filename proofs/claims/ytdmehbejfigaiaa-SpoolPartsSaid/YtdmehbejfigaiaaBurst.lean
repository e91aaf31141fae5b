/- The sum of bytes tells bits that were turned within 32 neighbouring ones. Plain mathematics. -/
import Derived.Test.YtdmehbejfigaiaaCrc
namespace Go.Proofs.Ytdmehbejfigaiaa
set_option linter.unusedVariables false

theorem crcBit_xor (x y : BitVec 32) : crcBit (x ^^^ y) = crcBit x ^^^ crcBit y := by
  unfold crcBit
  rw [BitVec.ushiftRight_xor_distrib, BitVec.getLsbD_xor]
  have four : ∀ a b p q : BitVec 32, (a ^^^ b) ^^^ (p ^^^ q) = (a ^^^ p) ^^^ (b ^^^ q) := fun a b p q => by ac_rfl
  rw [← four]
  congr 1
  cases x.getLsbD 0 <;> cases y.getLsbD 0 <;> simp
theorem crcBit_zero : crcBit 0#32 = 0#32 := by decide
theorem crcBits_xor (k : Nat) (x y : BitVec 32) : crcBits k (x ^^^ y) = crcBits k x ^^^ crcBits k y := by
  induction k generalizing x y with
  | zero => rfl
  | succ k ih => simp only [crcBits, crcBit_xor, ih]
theorem crcBits_zero (k : Nat) : crcBits k 0#32 = 0#32 := by
  induction k with
  | zero => rfl
  | succ k ih => simp only [crcBits, crcBit_zero, ih]
theorem crcBits_add (j k : Nat) (x : BitVec 32) : crcBits (j + k) x = crcBits k (crcBits j x) := by
  induction j generalizing x with
  | zero => simp [crcBits]
  | succ j ih => rw [Nat.succ_add]; exact ih (crcBit x)

theorem crcBit_inj (x : BitVec 32) (h : crcBit x = 0#32) : x = 0#32 := by
  unfold crcBit at h
  have h0 : x.getLsbD 0 = false := by
    cases hx : x.getLsbD 0 with
    | false => rfl
    | true =>
      rw [hx] at h
      have h1 : ((x >>> 1) ^^^ 2197175160#32).getLsbD 31 = (0#32).getLsbD 31 := by rw [← h]; rfl
      rw [BitVec.getLsbD_xor, BitVec.getLsbD_ushiftRight] at h1
      have h2 : (2197175160#32).getLsbD 31 = true := by decide
      rw [h2, BitVec.getLsbD_of_ge x (1 + 31) (by omega)] at h1
      simp at h1
  rw [h0] at h
  have h1 : x >>> 1 = 0#32 := by simpa using h
  apply BitVec.eq_of_getLsbD_eq
  intro i hi
  cases i with
  | zero => rw [h0]; simp
  | succ i =>
    have h2 : (x >>> 1).getLsbD i = (0#32).getLsbD i := by rw [h1]
    rw [BitVec.getLsbD_ushiftRight] at h2
    rw [Nat.add_comm i 1, h2]
    simp
theorem crcBits_inj (k : Nat) (x : BitVec 32) (h : crcBits k x = 0#32) : x = 0#32 := by
  induction k generalizing x with
  | zero => exact h
  | succ k ih => exact crcBit_inj x (ih (crcBit x) h)

theorem crcBit_pow (k : Nat) (h : k + 1 < 32) : crcBit (BitVec.twoPow 32 (k + 1)) = BitVec.twoPow 32 k := by
  unfold crcBit
  have h0 : (BitVec.twoPow 32 (k + 1)).getLsbD 0 = false := by rw [BitVec.getLsbD_twoPow]; simp
  rw [h0]
  apply BitVec.eq_of_getLsbD_eq
  intro i hi
  simp only [Bool.false_eq_true, if_false, BitVec.xor_zero, BitVec.getLsbD_ushiftRight, BitVec.getLsbD_twoPow]
  rw [Bool.eq_iff_iff]
  simp
  omega
theorem crcBits_pow (k : Nat) (h : k < 32) : crcBits k (BitVec.twoPow 32 k) = 1#32 := by
  induction k with
  | zero => decide
  | succ k ih => show crcBits k (crcBit _) = _; rw [crcBit_pow k h]; exact ih (by omega)

/-- A bit at the lowest place. -/
def lowBit (b : Bool) : BitVec 32 := if b then 1#32 else 0#32
/-- The register, bit by bit. -/
def ser (s : BitVec 32) (g : Nat → Bool) : Nat → BitVec 32
  | 0 => s
  | k + 1 => crcBit (ser s g k ^^^ lowBit (g k))
/-- The first k bits as a word. -/
def word (g : Nat → Bool) : Nat → BitVec 32
  | 0 => 0#32
  | k + 1 => word g k ^^^ (if g k then BitVec.twoPow 32 k else 0#32)

theorem word_bit (g : Nat → Bool) (k i : Nat) (hi : i < 32) : (word g k).getLsbD i = (decide (i < k) && g i) := by
  induction k with
  | zero => simp [word]
  | succ k ih =>
    simp only [word, BitVec.getLsbD_xor, ih]
    by_cases hk : g k
    · rw [if_pos hk, BitVec.getLsbD_twoPow]
      rcases Nat.lt_trichotomy i k with h | h | h
      · simp [h, Nat.lt_succ_of_lt h, Nat.ne_of_gt h]
      · subst h; simp [hi, hk]
      · have h1 : ¬ i < k := by omega
        have h2 : ¬ i < k + 1 := by omega
        have h3 : ¬ i = k := by omega
        simp [h1, h2]; omega
    · rw [if_neg hk]
      rcases Nat.lt_trichotomy i k with h | h | h
      · simp [h, Nat.lt_succ_of_lt h]
      · subst h; simp [hk]
      · have h1 : ¬ i < k := by omega
        have h2 : ¬ i < k + 1 := by omega
        simp [h1, h2]

theorem ser_word (s : BitVec 32) (g : Nat → Bool) (k : Nat) (hk : k ≤ 32) : ser s g k = crcBits k (s ^^^ word g k) := by
  induction k with
  | zero => simp [ser, word, crcBits]
  | succ k ih =>
    have e : lowBit (g k) = crcBits k (if g k then BitVec.twoPow 32 k else 0#32) := by
      unfold lowBit
      cases g k with
      | true => rw [if_pos rfl, if_pos rfl, crcBits_pow k (by omega)]
      | false => simp [crcBits_zero]
    simp only [ser, word]
    rw [ih (by omega), e, ← crcBits_xor, BitVec.xor_assoc, ← crcBits_succ]

theorem ser_add (s : BitVec 32) (g : Nat → Bool) (j k : Nat) : ser s g (j + k) = ser (ser s g j) (fun i => g (j + i)) k := by
  induction k with
  | zero => rfl
  | succ k ih => show crcBit (ser s g (j + k) ^^^ _) = _; rw [ih]; rfl
theorem lowBit_xor (a b : Bool) : lowBit (a ^^ b) = lowBit a ^^^ lowBit b := by cases a <;> cases b <;> decide
theorem ser_xor (s s' : BitVec 32) (g g' : Nat → Bool) (k : Nat) : ser s g k ^^^ ser s' g' k = ser (s ^^^ s') (fun i => g i ^^ g' i) k := by
  induction k with
  | zero => rfl
  | succ k ih =>
    simp only [ser]
    rw [← ih, lowBit_xor, ← crcBit_xor]
    congr 1
    ac_rfl
/-- No bit: the register only turns. -/
theorem ser_none (s : BitVec 32) (g : Nat → Bool) (k : Nat) (h : ∀ i, i < k → g i = false) : ser s g k = crcBits k s := by
  induction k with
  | zero => rfl
  | succ k ih => simp only [ser]; rw [ih (fun i hi => h i (by omega)), h k (by omega), crcBits_succ]; simp [lowBit]

/-- Bits within 32 neighbouring ones, one of them set: the register is not 0. -/
theorem ser_burst (g : Nat → Bool) (n a k : Nat) (hk : k < 32) (hg : g (a + k) = true) (hlo : ∀ i, i < a → g i = false) (hhi : ∀ i, a + 32 ≤ i → g i = false) (hn : ∀ i, n ≤ i → g i = false) :
    ser 0#32 g n ≠ 0#32 := by
  have hA : ser 0#32 g a = 0#32 := by rw [ser_none _ _ _ hlo, crcBits_zero]
  have hB : ser 0#32 g (a + 32) ≠ 0#32 := by
    rw [ser_add, hA, ser_word _ _ _ (Nat.le_refl _)]
    intro h
    have h1 := crcBits_inj _ _ h
    have h2 := word_bit (fun i => g (a + i)) 32 k hk
    rw [BitVec.zero_xor] at h1
    rw [h1] at h2
    simp [hk, hg] at h2
  intro h
  by_cases hle : n ≤ a + 32
  · apply hB
    obtain ⟨d, hd⟩ : ∃ d, a + 32 = n + d := ⟨a + 32 - n, by omega⟩
    rw [hd, ser_add, h, ser_none _ _ _ (fun i _ => hn _ (by omega)), crcBits_zero]
  · apply hB
    obtain ⟨d, hd⟩ : ∃ d, n = (a + 32) + d := ⟨n - (a + 32), by omega⟩
    rw [hd, ser_add, ser_none _ _ _ (fun i _ => hhi _ (by omega))] at h
    exact crcBits_inj _ _ h

/-- The bits of bytes, the lowest bit of a byte first. -/
def bitsOf (l : List UInt8) (i : Nat) : Bool := (l.getD (i / 8) 0).toNat.testBit (i % 8)

theorem word_byte (c : Nat) (hc : c < 256) (g : Nat → Bool) (hg : ∀ j, j < 8 → g j = c.testBit j) : word g 8 = BitVec.ofNat 32 c := by
  apply BitVec.eq_of_getLsbD_eq
  intro i hi
  rw [word_bit g 8 i hi, BitVec.getLsbD_ofNat]
  by_cases h8 : i < 8
  · simp [h8, hg i h8, hi]
  · have h1 : c.testBit i = false := Nat.testBit_lt_two_pow (Nat.lt_of_lt_of_le hc (show 2 ^ 8 ≤ 2 ^ i from Nat.pow_le_pow_right (by omega) (by omega)))
    simp [h8, h1]

theorem crcReg_ser (l : List UInt8) (k : Nat) (hk : k ≤ l.length) : crcReg (l.take k) = ser 4294967295#32 (bitsOf l) (8 * k) := by
  induction k with
  | zero => simp [crcReg, ser]
  | succ k ih =>
    have hlt : k < l.length := by omega
    rw [List.take_succ_eq_append_getElem hlt, crcReg_snoc, ih (by omega), Nat.mul_succ, ser_add, ser_word _ _ 8 (by omega)]
    unfold crcByte
    rw [word_byte l[k].toNat (UInt8.toNat_lt _)]
    intro j hj
    have e1 : (8 * k + j) / 8 = k := by omega
    have e2 : (8 * k + j) % 8 = j := by omega
    simp [bitsOf, e1, e2, hlt]

/-- TWO LISTS OF BYTES THAT DIFFER WITHIN 32 NEIGHBOURING BITS HAVE UNLIKE SUMS. -/
theorem crc_burst (l m : List UInt8) (hlen : l.length = m.length) (a k : Nat) (hk : k < 32) (hd : bitsOf l (a + k) ≠ bitsOf m (a + k)) (ha : ∀ i, bitsOf l i ≠ bitsOf m i → a ≤ i ∧ i < a + 32) : crc l ≠ crc m := by
  intro h
  have h1 : crcReg l = crcReg m := by
    unfold crc at h
    have := BitVec.eq_of_toNat_eq h
    exact BitVec.not_inj.1 this
  have hl := crcReg_ser l l.length (Nat.le_refl _)
  have hm := crcReg_ser m m.length (Nat.le_refl _)
  rw [List.take_length] at hl hm
  have hx : ser 0#32 (fun i => bitsOf l i ^^ bitsOf m i) (8 * l.length) = 0#32 := by
    have := ser_xor 4294967295#32 4294967295#32 (bitsOf l) (bitsOf m) (8 * l.length)
    rw [← hl, hlen, ← hm, h1, BitVec.xor_self, BitVec.xor_self] at this
    rw [hlen]
    exact this.symm
  have hout : ∀ (x : List UInt8) i, 8 * x.length ≤ i → bitsOf x i = false := fun x i hi => by
    have : x[i / 8]? = none := List.getElem?_eq_none (by omega)
    simp [bitsOf, this]
  refine ser_burst (fun i => bitsOf l i ^^ bitsOf m i) (8 * l.length) a k hk ?_ ?_ ?_ ?_ hx
  · simpa using hd
  · intro i hi
    have : bitsOf l i = bitsOf m i := Decidable.byContradiction fun hne => by have := ha i hne; omega
    simp [this]
  · intro i hi
    have : bitsOf l i = bitsOf m i := Decidable.byContradiction fun hne => by have := ha i hne; omega
    simp [this]
  · intro i hi
    simp only [hout l i hi, hout m i (by omega)]
    rfl
end Go.Proofs.Ytdmehbejfigaiaa
