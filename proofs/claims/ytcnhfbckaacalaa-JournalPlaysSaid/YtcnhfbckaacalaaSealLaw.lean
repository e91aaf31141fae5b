/- The plain laws of sealed blocks: what is sealed is told. No program is walked here. -/
import Derived.Test.YtcnhfbckaacalaaGet
namespace Go.Proofs.Ytcnhfbckaacalaa
set_option linter.unusedVariables false

theorem told_be_acc (n : Nat) : ∀ (k acc : Nat), (acc + 1) * 256 ^ k ≤ 18446744073709551616 →
    (be k n).foldl (fun n c => n * 256 % 18446744073709551616 + c.toNat) acc = acc * 256 ^ k + n % 256 ^ k
  | 0, acc, _ => by simp [be, Nat.mod_one]
  | k + 1, acc, h => by
    have hp : 0 < 256 ^ k := Nat.pow_pos (by omega)
    have h1 : (acc + 1) * 256 ≤ 18446744073709551616 := by
      refine Nat.le_trans ?_ h
      rw [Nat.pow_succ, Nat.mul_comm (256 ^ k) 256, ← Nat.mul_assoc]
      exact Nat.le_mul_of_pos_right _ hp
    have hb : (UInt8.ofNat (n / 256 ^ k)).toNat = n / 256 ^ k % 256 := by simp
    simp only [be, List.foldl_cons]
    rw [hb, Nat.mod_eq_of_lt (a := acc * 256) (by omega), told_be_acc n k _ ?_]
    · rw [Nat.mod_pow_succ, Nat.pow_succ, Nat.add_mul, Nat.mul_comm (256 ^ k) 256, ← Nat.mul_assoc, Nat.mul_comm (256 ^ k) (n / 256 ^ k % 256)]
      omega
    · have h2 : n / 256 ^ k % 256 < 256 := Nat.mod_lt _ (by omega)
      refine Nat.le_trans (Nat.mul_le_mul_right _ (show acc * 256 + n / 256 ^ k % 256 + 1 ≤ (acc + 1) * 256 by omega)) ?_
      rw [Nat.mul_assoc, Nat.mul_comm 256 (256 ^ k), ← Nat.pow_succ]
      exact h

theorem told_be_s (k n : Nat) (hk : k ≤ 8) : toldN (be k n) = n % 256 ^ k := by
  unfold toldN
  rw [told_be_acc n k 0]
  · simp
  · have : 256 ^ k ≤ 256 ^ 8 := Nat.pow_le_pow_right (by omega) hk
    have h8 : 256 ^ 8 = 18446744073709551616 := by decide
    omega

section
variable {size kind num : Nat} {load : List UInt8}
theorem room_is (h64 : 64 ≤ size) (h4096 : size ≤ 4096) : room (size : Int) = (size : Int) - 15 := by
  unfold room; rw [if_neg (by omega), if_neg (by omega)]

theorem putP_ok (h64 : 64 ≤ size) (h4096 : size ≤ 4096) (hk : kind ≠ 0) (hl : load.length + 15 ≤ size) : putP size kind num load = (0, sealed size kind num load) := by
  unfold putP
  rw [room_is h64 h4096, if_neg (by omega), if_neg (by omega)]
  simp

/-- What of a block Get looks at. -/
theorem sealed_head : (sealed size kind num load).headD 0 = UInt8.ofNat kind := by simp [sealed, sealBody]
theorem sealed_num : ((sealed size kind num load).drop 1).take 8 = be 8 num := by
  have hb := be_length 8 num
  unfold sealed sealBody
  simp only [List.cons_append, List.drop_succ_cons, List.drop_zero, List.append_assoc]
  rw [List.take_left' hb]
theorem sealed_len2 : ((sealed size kind num load).drop 9).take 2 = be 2 load.length := by
  have hb := be_length 8 num
  have hb2 := be_length 2 load.length
  unfold sealed sealBody
  simp only [List.cons_append, List.drop_succ_cons, List.append_assoc]
  rw [List.drop_left' hb, List.take_left' hb2]
theorem sealed_load : ((sealed size kind num load).drop 11).take load.length = load := by
  have hb : (be 8 num ++ be 2 load.length).length = 10 := by simp [be_length]
  unfold sealed sealBody
  simp only [List.cons_append, List.drop_succ_cons, List.append_assoc]
  rw [← List.append_assoc (be 8 num), List.drop_left' hb, List.take_left' rfl]

/-- There and back. -/
theorem get_sealed (h64 : 64 ≤ size) (h4096 : size ≤ 4096) (hk : kind ≠ 0) (hk2 : kind < 256) (hn : num < 18446744073709551616) (hl : load.length + 15 ≤ size) : getP (sealed size kind num load) = some (kind, num, load) := by
  have hlen := sealed_len (kind := kind) (num := num) h64 hl
  have e1 : toldN (be 2 load.length) = load.length := by rw [told_be_s 2 _ (by omega)]; exact Nat.mod_eq_of_lt (by omega)
  have e2 : toldN (be 8 num) = num := by rw [told_be_s 8 _ (by omega)]; exact Nat.mod_eq_of_lt (by omega)
  have e3 : (UInt8.ofNat kind).toNat = kind := by simp; omega
  unfold getP
  rw [hlen, room_is h64 h4096, sealed_len2, e1, sealed_num, e2, sealed_load, sealed_head, e3, if_neg (by omega), if_neg (by omega), putP_ok h64 h4096 hk hl, if_pos rfl]

/-- Bytes that Get takes are those that Put makes of them. -/
theorem get_some {l : List UInt8} {k num : Nat} {load : List UInt8} (h : getP l = some (k, num, load)) : putP l.length k num load = (0, l) := by
  unfold getP at h
  split at h
  · cases h
  · split at h
    · cases h
    · split at h
      · rename_i hh
        injection h with h
        injection h with h1 h2
        injection h2 with h2 h3
        subst h1 h2 h3
        exact hh
      · cases h
theorem get_zeros : getP (List.replicate 64 0) = none := by
  unfold getP putP
  rw [if_neg (by decide), if_neg (by decide), if_neg]
  rw [if_pos (by decide)]
  simp
end
end Go.Proofs.Ytcnhfbckaacalaa
