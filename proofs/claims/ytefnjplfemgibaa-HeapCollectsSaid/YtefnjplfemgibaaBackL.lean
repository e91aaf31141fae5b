/- What is laid is read back; what is cut off is told: the plain laws of SpoolBack and SpoolShort. No program is named here. -/
import Derived.Test.YtefnjplfemgibaaTapeD
import Derived.Test.YtefnjplfemgibaaLays
namespace Go.Proofs.Ytefnjplfemgibaa
open Go.RowKit
set_option linter.unusedVariables false

theorem ofNat_wid (n : Nat) : (UInt8.ofNat (wid n)).toNat = wid n := by
  have := wid_le n
  simp; omega
theorem ofNat_wid128 (n : Nat) : (UInt8.ofNat (wid n + 128)).toNat = wid n + 128 := by
  have := wid_le n
  simp; omega
theorem be_head_ne {n k : Nat} (hn : n < 18446744073709551616) (hk : wid n = k + 1) : UInt8.ofNat (n / 256 ^ k) ≠ 0 := by
  have h1 := wid_ge hn hk
  have h2 := wid_lt n hn
  rw [hk, Nat.pow_succ] at h2
  have h3 : 0 < n / 256 ^ k := Nat.div_pos h1 (Nat.pow_pos (by omega))
  have h4 : n / 256 ^ k < 256 := Nat.div_lt_of_lt_mul (by omega)
  intro e
  have h5 : (UInt8.ofNat (n / 256 ^ k)).toNat = 0 := by rw [e]; rfl
  simp at h5
  omega
theorem told_wid {n : Nat} (hn : n < 18446744073709551616) : toldN (be (wid n) n) = n := by
  rw [told_be _ _ (wid_le n), Nat.mod_eq_of_lt (wid_lt n hn)]

section
variable {t : TS} {n : Nat} {r : List UInt8}
theorem rest_at (b : Bool) (hn : n < 18446744073709551616) (h : t.bytes.drop (t.pos + 1) = be (wid n) n ++ r) :
    t.rest (wid n) b = ((n, b), { t with pos := t.pos + 1 + wid n }) := by
  unfold TS.rest
  have hl : t.bytes.length - (t.pos + 1) = wid n + r.length := by
    have := congrArg List.length h
    simpa [be_length] using this
  rw [if_neg (by have := wid_le n; omega), if_neg (by omega), if_neg, h, List.take_append_of_le_length (by rw [be_length]; omega), List.take_of_length_le (by rw [be_length]; omega), told_wid hn]
  rintro ⟨h1, h2⟩
  obtain ⟨k, hk⟩ : ∃ k, wid n = k + 1 := ⟨wid n - 1, by omega⟩
  rw [h, hk] at h2
  simp only [be, List.cons_append, List.head?_cons] at h2
  exact be_head_ne hn hk (Option.some.inj h2)
theorem head_at {x : UInt8} {l : List UInt8} (h : t.bytes.drop t.pos = x :: l) : t.bytes[t.pos]? = some x ∧ t.bytes.drop (t.pos + 1) = l := by
  constructor
  · have := congrArg (fun l => l[0]?) h
    simpa using this
  · rw [← List.drop_drop, h]; rfl
theorem number_at (hf : t.fault = 0) (hn : n < 18446744073709551616) (h : t.bytes.drop t.pos = laidB n 0 ++ r) :
    t.number false = ((n, false), { t with pos := t.pos + (wid n + 1) }) := by
  obtain ⟨h1, h2⟩ := head_at (show t.bytes.drop t.pos = UInt8.ofNat (wid n) :: (be (wid n) n ++ r) from h)
  unfold TS.number
  rw [if_pos hf, h1]
  simp only [Bool.false_eq_true, false_and, if_false]
  rw [ofNat_wid, rest_at false hn h2, show t.pos + 1 + wid n = t.pos + (wid n + 1) by omega]
theorem number_at_s {more : Nat} (hm : more = 0 ∨ more = 128) (hf : t.fault = 0) (hn : n < 18446744073709551616) (h : t.bytes.drop t.pos = laidB n more ++ r) :
    t.number true = ((n, decide (more = 128)), { t with pos := t.pos + (wid n + 1) }) := by
  obtain ⟨h1, h2⟩ := head_at (show t.bytes.drop t.pos = UInt8.ofNat (wid n + more) :: (be (wid n) n ++ r) from h)
  have hw := wid_le n
  unfold TS.number
  rw [if_pos hf, h1]
  simp only [true_and]
  rcases hm with rfl | rfl
  · rw [Nat.add_zero, ofNat_wid, if_neg (by omega), rest_at false hn h2, show t.pos + 1 + wid n = t.pos + (wid n + 1) by omega]
    rfl
  · rw [ofNat_wid128, if_pos (by omega), Nat.add_sub_cancel, rest_at true hn h2, show t.pos + 1 + wid n = t.pos + (wid n + 1) by omega]
    rfl
theorem int_at {z : Int} (hf : t.fault = 0) (h1 : -9223372036854775808 ≤ z) (h2 : z ≤ 9223372036854775807) (h : t.bytes.drop t.pos = laidI z ++ r) :
    t.int = (z, { t with pos := t.pos + (laidI z).length }) := by
  by_cases hz : z < 0
  · have e : laidI z = laidB (-(z + 1)).toNat 128 := by unfold laidI; rw [if_pos hz]
    rw [e] at h ⊢
    have hx := number_at_s (more := 128) (.inr rfl) hf (by omega) h
    unfold TS.int
    rw [hx, laidB_len]
    simp only
    rw [if_neg (by omega), if_pos (by rfl)]
    congr 1
    omega
  · have e : laidI z = laidB z.toNat 0 := by unfold laidI; rw [if_neg hz]
    rw [e] at h ⊢
    have hx := number_at_s (more := 0) (.inl rfl) hf (by omega) h
    unfold TS.int
    rw [hx, laidB_len]
    simp only
    rw [if_neg (by omega), if_neg (by decide)]
    congr 1
    omega
theorem str_at {s : List UInt8} {most : Int} (hf : t.fault = 0) (hs : s.length < 18446744073709551616) (hm : (s.length : Int) ≤ most) (h : t.bytes.drop t.pos = laidS s ++ r) :
    t.str most = (s, { t with pos := t.pos + (laidS s).length }) := by
  unfold laidS at h ⊢
  rw [List.append_assoc] at h
  have hx := number_at hf hs h
  have hd : t.bytes.drop (t.pos + (wid s.length + 1)) = s ++ r := by
    rw [← List.drop_drop, h, List.drop_append_of_le_length (by rw [laidB_len]; omega), List.drop_of_length_le (by rw [laidB_len]; omega)]
    rfl
  have hl : t.bytes.length - (t.pos + (wid s.length + 1)) = s.length + r.length := by
    have := congrArg List.length hd
    simpa using this
  unfold TS.str
  rw [hx]
  simp only
  rw [if_neg (by simp [hf]), if_neg (by omega), if_neg (by omega), hd, List.take_append_of_le_length (Nat.le_refl _), List.take_of_length_le (Nat.le_refl _), List.length_append, laidB_len, Nat.add_assoc]
theorem number_stopped_eq (hf : t.fault ≠ 0) (b : Bool) : t.number b = ((0, false), t) := by unfold TS.number; rw [if_neg hf]
theorem str_stopped (hf : t.fault ≠ 0) (most : Int) : t.str most = ([], t) := by
  unfold TS.str
  rw [number_stopped_eq hf]
  simp only
  rw [if_pos hf]
theorem number_cut {k : Nat} (hf : t.fault = 0) (hk : k < (laidB n 0).length) (h : t.bytes.drop t.pos = (laidB n 0).take k) :
    t.number false = ((0, false), t.stops 3 t.pos) := by
  unfold TS.number
  rw [if_pos hf]
  rcases k with _ | k
  · have h1 : t.bytes[t.pos]? = none := by
      have := congrArg (fun l => l[0]?) h
      simpa using this
    rw [h1]
  · obtain ⟨h1, h2⟩ := head_at (show t.bytes.drop t.pos = UInt8.ofNat (wid n) :: (be (wid n) n).take k from h)
    rw [h1]
    simp only [Bool.false_eq_true, false_and, if_false]
    rw [ofNat_wid]
    have hl : t.bytes.length - (t.pos + 1) ≤ k := by
      have := congrArg List.length h2
      simp at this
      omega
    unfold TS.rest
    rw [laidB_len] at hk
    rw [if_neg (by have := wid_le n; omega), if_pos (by omega)]
theorem str_cut {s : List UInt8} {most : Int} {k : Nat} (hf : t.fault = 0) (hs : s.length < 18446744073709551616) (hm : (s.length : Int) ≤ most) (hk : k < (laidS s).length) (h : t.bytes.drop t.pos = (laidS s).take k) :
    t.str most = ([], t.stops 3 t.pos) := by
  unfold laidS at h hk
  by_cases hc : k < (laidB s.length 0).length
  · rw [List.take_append_of_le_length (by omega)] at h
    have hx := number_cut hf hc h
    unfold TS.str
    rw [hx]
    simp only
    rw [if_pos (by show (3 : Nat) ≠ 0; omega)]
  · rw [List.take_append, List.take_of_length_le (by omega)] at h
    have hx := number_at hf hs h
    have hd : t.bytes.drop (t.pos + (wid s.length + 1)) = s.take (k - (laidB s.length 0).length) := by
      rw [← List.drop_drop, h, List.drop_append_of_le_length (by rw [laidB_len]; omega), List.drop_of_length_le (by rw [laidB_len]; omega)]
      rfl
    rw [laidB_len] at hd hc
    rw [List.length_append, laidB_len] at hk
    have hl : t.bytes.length - (t.pos + (wid s.length + 1)) ≤ k - (wid s.length + 1) := by
      have := congrArg List.length hd
      simp at this
      omega
    unfold TS.str
    rw [hx]
    simp only
    rw [if_neg (by simp [hf]), if_neg (by omega), if_pos (by omega)]
    rfl
end
end Go.Proofs.Ytefnjplfemgibaa
