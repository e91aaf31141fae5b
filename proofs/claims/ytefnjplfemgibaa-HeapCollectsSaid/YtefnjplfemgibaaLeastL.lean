/- The plain law of SpoolLeast: bytes that are read as a number are those that are laid of it. -/
import Derived.Test.YtefnjplfemgibaaTapeD
namespace Go.Proofs.Ytefnjplfemgibaa
open Go.RowKit
set_option linter.unusedVariables false

theorem be_snoc (k n : Nat) : be (k + 1) n = be k (n / 256) ++ [UInt8.ofNat n] := by
  apply List.ext_getElem
  · simp [be_length]
  · intro i h1 h2
    rw [be_get]
    rw [be_length] at h1
    by_cases hi : i < k
    · rw [List.getElem_append_left (by rw [be_length]; exact hi), be_get, Nat.div_div_eq_div_mul, ← Nat.pow_succ']
      congr 3
      omega
    · rw [List.getElem_append_right (by rw [be_length]; omega)]
      obtain rfl : i = k := by omega
      simp
/-- Bytes that are told are laid so. -/
theorem be_told : ∀ (k : Nat) (p : List UInt8), p.length = k → k ≤ 8 → be k (toldN p) = p ∧ toldN p < 256 ^ k ∧ (∀ h : 0 < p.length, p[0] ≠ 0 → 256 ^ (k - 1) ≤ toldN p)
  | 0, p, hp, _ => by
    obtain rfl : p = [] := List.eq_nil_of_length_eq_zero hp
    exact ⟨rfl, by simp [toldN], fun h => by simp at h⟩
  | k + 1, p, hp, hk => by
    rcases List.eq_nil_or_concat p with rfl | ⟨q, c, rfl⟩
    · simp at hp
    · simp only [List.concat_eq_append] at *
      have hq : q.length = k := by simpa using hp
      obtain ⟨h1, h2, h3⟩ := be_told k q hq (by omega)
      have hc := u8_lt c
      have hp7 : 256 ^ k ≤ 72057594037927936 := by
        have := Nat.pow_le_pow_right (show 0 < 256 by omega) (show k ≤ 7 by omega)
        simpa using this
      have e : toldN (q ++ [c]) = toldN q * 256 + c.toNat := by
        rw [toldN_snoc, Nat.mod_eq_of_lt (by omega)]
      have e2 : (toldN q * 256 + c.toNat) / 256 = toldN q := by omega
      rw [e, be_snoc, e2, h1]
      refine ⟨?_, by rw [Nat.pow_succ]; omega, fun h hne => ?_⟩
      · congr 1
        have : UInt8.ofNat (toldN q * 256 + c.toNat) = c := by
          apply UInt8.toNat_inj.1
          simp
        rw [this]
      · rcases Nat.eq_zero_or_pos k with hk0 | hk0
        · have hq0 : q = [] := List.eq_nil_of_length_eq_zero (by omega)
          subst hq0
          simp only [List.nil_append, List.getElem_cons_zero] at hne
          have : c.toNat ≠ 0 := fun e => hne (UInt8.toNat_inj.1 (by rw [e]; rfl))
          subst hk0
          simp
          omega
        · have hne2 : q[0]'(by omega) ≠ 0 := by
            rw [List.getElem_append_left (by omega)] at hne
            exact hne
          have h4 := h3 (by omega) hne2
          obtain ⟨j, rfl⟩ : ∃ j, k = j + 1 := ⟨k - 1, by omega⟩
          simp only [Nat.add_sub_cancel] at h4 ⊢
          rw [Nat.pow_succ]
          omega
/-- What stands behind a first byte, at the beginning. -/
theorem rest_law (l : List UInt8) (h : UInt8) (wd more : Nat) (b : Bool) (h0 : l[0]? = some h) (hh : h.toNat = wd + more) :
    ((((⟨l, 0, 0, 0⟩ : TS).rest wd b).2.fault = 3 ∨ ((⟨l, 0, 0, 0⟩ : TS).rest wd b).2.fault = 10) ∧ ((⟨l, 0, 0, 0⟩ : TS).rest wd b).1 = (0, false) ∧ ((⟨l, 0, 0, 0⟩ : TS).rest wd b).2.pos = 0) ∨
    (((⟨l, 0, 0, 0⟩ : TS).rest wd b).2.fault = 0 ∧ ((⟨l, 0, 0, 0⟩ : TS).rest wd b).1.2 = b ∧ ((⟨l, 0, 0, 0⟩ : TS).rest wd b).2.pos ≤ l.length ∧ laidB ((⟨l, 0, 0, 0⟩ : TS).rest wd b).1.1 more = l.take ((⟨l, 0, 0, 0⟩ : TS).rest wd b).2.pos) := by
  unfold TS.rest
  by_cases hw : 8 < wd
  · rw [if_pos hw]
    exact .inl ⟨.inr rfl, rfl, rfl⟩
  · rw [if_neg hw]
    by_cases hs : l.length - (0 + 1) < wd
    · rw [if_pos hs]
      exact .inl ⟨.inl rfl, rfl, rfl⟩
    · rw [if_neg hs]
      by_cases hz : 0 < wd ∧ (l.drop (0 + 1)).head? = some 0
      · rw [if_pos hz]
        exact .inl ⟨.inr rfl, rfl, rfl⟩
      · rw [if_neg hz]
        have hl0 : 0 < l.length := by
          rcases Nat.eq_zero_or_pos l.length with e | e
          · rw [List.eq_nil_of_length_eq_zero e] at h0; simp at h0
          · exact e
        refine .inr ⟨rfl, rfl, by show 0 + 1 + wd ≤ l.length; omega, ?_⟩
        show laidB (toldN ((l.drop (0 + 1)).take wd)) more = l.take (0 + 1 + wd)
        have hlen : ((l.drop (0 + 1)).take wd).length = wd := by simp; omega
        obtain ⟨h1, h2, h3⟩ := be_told wd _ hlen (by omega)
        have hwid : wid (toldN ((l.drop (0 + 1)).take wd)) = wd := by
          refine wid_of (toldN_lt _) h2 (fun j hj => ?_)
          have hwp : 0 < ((l.drop (0 + 1)).take wd).length := by omega
          have h4 := h3 hwp (fun e => hz ⟨by omega, by
            have h5 : ((l.drop (0 + 1)).take wd).head? = some 0 := by rw [List.head?_eq_getElem?, List.getElem?_eq_getElem hwp, e]
            rw [List.head?_take, if_neg (by omega)] at h5
            exact h5⟩)
          subst hj
          simpa using h4
        unfold laidB
        rw [hwid, h1]
        have hhd : UInt8.ofNat (wd + more) = h := by rw [← hh]; simp
        rw [hhd]
        have e1 : l = h :: l.drop 1 := by
          rw [List.getElem?_eq_getElem hl0] at h0
          rw [← Option.some.inj h0]
          exact (List.drop_eq_getElem_cons hl0 : l.drop 0 = _)
        conv => rhs; rw [e1]
        rw [show 0 + 1 + wd = wd + 1 by omega, List.take_succ_cons]

theorem number_law (l : List UInt8) : ((((⟨l, 0, 0, 0⟩ : TS).number false).2.fault = 3 ∨ ((⟨l, 0, 0, 0⟩ : TS).number false).2.fault = 10) ∧ ((⟨l, 0, 0, 0⟩ : TS).number false).1.1 = 0 ∧ ((⟨l, 0, 0, 0⟩ : TS).number false).2.pos = 0) ∨
    (((⟨l, 0, 0, 0⟩ : TS).number false).2.fault = 0 ∧ ((⟨l, 0, 0, 0⟩ : TS).number false).2.pos ≤ l.length ∧ laidB ((⟨l, 0, 0, 0⟩ : TS).number false).1.1 0 = l.take ((⟨l, 0, 0, 0⟩ : TS).number false).2.pos) := by
  unfold TS.number
  rw [if_pos rfl]
  cases h0 : l[0]? with
  | none => exact .inl ⟨.inl rfl, rfl, rfl⟩
  | some h =>
    simp only [Bool.false_eq_true, false_and, if_false]
    rcases rest_law l h h.toNat 0 false h0 rfl with ⟨h1, h2, h3⟩ | ⟨h1, h2, h3, h4⟩
    · exact .inl ⟨h1, by rw [h2], h3⟩
    · exact .inr ⟨h1, h3, h4⟩
theorem int_law (l : List UInt8) : ((⟨l, 0, 0, 0⟩ : TS).int.2.fault ≠ 0 ∧ (⟨l, 0, 0, 0⟩ : TS).int.1 = 0 ∧ (⟨l, 0, 0, 0⟩ : TS).int.2.pos = 0) ∨
    ((⟨l, 0, 0, 0⟩ : TS).int.2.fault = 0 ∧ (⟨l, 0, 0, 0⟩ : TS).int.2.pos ≤ l.length ∧ laidI (⟨l, 0, 0, 0⟩ : TS).int.1 = l.take (⟨l, 0, 0, 0⟩ : TS).int.2.pos ∧ -9223372036854775808 ≤ (⟨l, 0, 0, 0⟩ : TS).int.1 ∧ (⟨l, 0, 0, 0⟩ : TS).int.1 ≤ 9223372036854775807) := by
  have key : ∀ (x : (Nat × Bool) × TS) (more : Nat), (⟨l, 0, 0, 0⟩ : TS).number true = x → (((x.2.fault = 3 ∨ x.2.fault = 10) ∧ x.1 = (0, false) ∧ x.2.pos = 0) ∨ (x.2.fault = 0 ∧ x.1.2 = decide (more = 128) ∧ x.2.pos ≤ l.length ∧ laidB x.1.1 more = l.take x.2.pos)) → (more = 0 ∨ more = 128) →
      ((⟨l, 0, 0, 0⟩ : TS).int.2.fault ≠ 0 ∧ (⟨l, 0, 0, 0⟩ : TS).int.1 = 0 ∧ (⟨l, 0, 0, 0⟩ : TS).int.2.pos = 0) ∨ ((⟨l, 0, 0, 0⟩ : TS).int.2.fault = 0 ∧ (⟨l, 0, 0, 0⟩ : TS).int.2.pos ≤ l.length ∧ laidI (⟨l, 0, 0, 0⟩ : TS).int.1 = l.take (⟨l, 0, 0, 0⟩ : TS).int.2.pos ∧ -9223372036854775808 ≤ (⟨l, 0, 0, 0⟩ : TS).int.1 ∧ (⟨l, 0, 0, 0⟩ : TS).int.1 ≤ 9223372036854775807) := by
    intro x more hx hc hm
    obtain ⟨⟨n, b⟩, t⟩ := x
    unfold TS.int
    rw [hx]
    simp only at hc ⊢
    by_cases hbig : 9223372036854775808 ≤ n
    · rw [if_pos hbig]
      exact .inl ⟨by show (11 : Nat) ≠ 0; omega, rfl, rfl⟩
    · rw [if_neg hbig]
      rcases hc with ⟨h1, h2, h3⟩ | ⟨h1, h2, h3, h4⟩
      · obtain ⟨rfl, rfl⟩ := Prod.mk.inj h2
        exact .inl ⟨by rcases h1 with h1 | h1 <;> (show t.fault ≠ 0; rw [h1]; omega), rfl, h3⟩
      · refine .inr ⟨h1, h3, ?_⟩
        rcases hm with rfl | rfl
        · have hb : b = false := by rw [h2]; rfl
          subst hb
          simp only [Bool.false_eq_true, if_false]
          refine ⟨?_, by omega, by omega⟩
          unfold laidI
          rw [if_neg (by omega), Int.toNat_natCast]
          exact h4
        · have hb : b = true := by rw [h2]; rfl
          subst hb
          simp only [if_true]
          refine ⟨?_, by omega, by omega⟩
          unfold laidI
          rw [if_pos (by omega), show (-(-(n : Int) - 1 + 1)).toNat = n by omega]
          exact h4
  cases h0 : l[0]? with
  | none =>
    refine key ((0, false), (⟨l, 0, 0, 0⟩ : TS).stops 3 0) 0 ?_ (.inl ⟨.inl rfl, rfl, rfl⟩) (.inl rfl)
    unfold TS.number
    rw [if_pos rfl, h0]
  | some h =>
    by_cases hh : 128 ≤ h.toNat
    · refine key _ 128 ?_ (rest_law l h (h.toNat - 128) 128 true h0 (by omega)) (.inr rfl)
      unfold TS.number
      rw [if_pos rfl, h0]
      simp only [true_and]
      rw [if_pos hh]
    · refine key _ 0 ?_ (rest_law l h h.toNat 0 false h0 rfl) (.inl rfl)
      unfold TS.number
      rw [if_pos rfl, h0]
      simp only [true_and]
      rw [if_neg hh]
end Go.Proofs.Ytefnjplfemgibaa
