/- Plain laws of the disk's functions: what is in a block behind a write; a disk of the call's own and its acts. -/
import Derived.Test.YtclbhhgifjegiaaNilW
namespace Go.Proofs.Ytclbhhgifjegiaa
open Go.RowKit
set_option linter.unusedVariables false

/-- A block of bytes and zeros behind them. -/
def padB (size : Nat) (l : List UInt8) : List UInt8 := l ++ List.replicate (size - l.length) 0
theorem padB_len {size : Nat} {l : List UInt8} (h : l.length ≤ size) : (padB size l).length = size := by simp [padB]; omega

theorem splice_get (b : List UInt8) (off : Nat) (x : List UInt8) (h : off + x.length ≤ b.length) (j : Nat) : (spliceB b off x)[j]? = if off ≤ j ∧ j < off + x.length then x[j - off]? else b[j]? := by
  unfold spliceB
  have h1 : (b.take off).length = off := by simp; omega
  by_cases ha : j < off
  · rw [if_neg (by omega), List.append_assoc, List.getElem?_append_left (by omega)]
    simp [ha]
  · by_cases hb : j < off + x.length
    · rw [if_pos ⟨by omega, hb⟩, List.append_assoc, List.getElem?_append_right (by omega), h1, List.getElem?_append_left (by omega)]
    · rw [if_neg (by omega), List.getElem?_append_right (by simp; omega), List.getElem?_drop]
      congr 1
      simp
      omega
theorem putBlock_get (b : List UInt8) (off size : Nat) (l : List UInt8) (h : off + size ≤ b.length) (hl : l.length ≤ size) (j : Nat) : (putBlock b off size l)[j]? = if off ≤ j ∧ j < off + size then (padB size l)[j - off]? else b[j]? := by
  unfold putBlock
  have h1 := splice_len b off l (by omega)
  rw [splice_get _ _ _ (by rw [h1]; simp; omega), splice_get _ _ _ (by omega)]
  simp only [List.length_replicate]
  unfold padB
  by_cases ha : off + l.length ≤ j ∧ j < off + l.length + (size - l.length)
  · rw [if_pos ha, if_pos (by omega), List.getElem?_append_right (by omega)]
    congr 1
    omega
  · rw [if_neg ha]
    by_cases hb : off ≤ j ∧ j < off + l.length
    · rw [if_pos hb, if_pos (by omega), List.getElem?_append_left (by omega)]
    · rw [if_neg hb, if_neg (by omega)]

theorem block_get (d : DS) (i k : Nat) : (d.blockB i)[k]? = if k < d.size then d.bytes[i * d.size + k]? else none := by
  unfold DS.blockB
  by_cases h : k < d.size
  · rw [if_pos h, List.getElem?_take, if_pos h, List.getElem?_drop]
  · rw [if_neg h, List.getElem?_take, if_neg h]

theorem block_len {d : DS} (ok : d.Ok) {i : Nat} (hi : i < d.nb) : (d.blockB i).length = d.size := by
  have := blk_lim ok hi
  unfold DS.blockB
  simp
  omega

section
variable {d : DS} {n : Int} {l : List UInt8}
/-- A write that is done. -/
theorem write_done (hn : 0 ≤ n ∧ n < d.nb) (hl : l.length ≤ d.size) (ho : d.off = false) (hlf : d.left ≠ 0) :
    d.write n l = (0, { d with bytes := putBlock d.bytes (n.toNat * d.size) d.size l, log := d.log ++ [n], left := if 0 < d.left then d.left - 1 else d.left }) := by
  unfold DS.write
  rw [if_neg (by simp [DS.hasB]; omega), if_neg (by omega), if_neg (by rw [ho]; simp), if_neg hlf]

theorem write_block (ok : d.Ok) (hn : 0 ≤ n ∧ n < d.nb) (hl : l.length ≤ d.size) (ho : d.off = false) (hlf : d.left ≠ 0) (i : Nat) (hi : i < d.nb) :
    (d.write n l).2.blockB i = if (i : Int) = n then padB d.size l else d.blockB i := by
  rw [write_done hn hl ho hlf]
  have hlim := blk_lim ok (n := n.toNat) (by omega)
  apply List.ext_getElem?
  intro k
  rw [block_get]
  show (if k < d.size then (putBlock d.bytes (n.toNat * d.size) d.size l)[i * d.size + k]? else none) = _
  by_cases hk : k < d.size
  · rw [if_pos hk, putBlock_get _ _ _ _ (by omega) hl]
    by_cases hin : (i : Int) = n
    · rw [if_pos hin]
      obtain rfl : n.toNat = i := by omega
      rw [if_pos (by omega)]
      congr 1
      omega
    · rw [if_neg hin, block_get, if_pos hk, if_neg]
      intro ⟨h1, h2⟩
      rcases Nat.lt_or_gt_of_ne (show i ≠ n.toNat by omega) with h3 | h3
      · have := Nat.mul_le_mul_right d.size (show i + 1 ≤ n.toNat from h3)
        rw [Nat.succ_mul] at this
        omega
      · have := Nat.mul_le_mul_right d.size (show n.toNat + 1 ≤ i from h3)
        rw [Nat.succ_mul] at this
        omega
  · rw [if_neg hk]
    split
    · rw [List.getElem?_eq_none]
      rw [padB_len hl]
      omega
    · rw [block_get, if_neg hk]
end

theorem read_done {d : DS} {n : Int} (hn : 0 ≤ n ∧ n < d.nb) (ho : d.off = false) : d.read n = (0, d.blockB n.toNat) := by
  unfold DS.read
  rw [if_neg (by simp [DS.hasB]; omega), if_neg (by rw [ho]; simp)]

/-- A new disk's blocks are 0. -/
theorem fresh_block (nb size i : Nat) (hi : i < nb) : (DS.fresh nb size).blockB i = padB size [] := by
  unfold DS.blockB DS.fresh padB
  simp
  have : i * size + size ≤ nb * size := by have := Nat.mul_le_mul_right size (show i + 1 ≤ nb from hi); rwa [Nat.succ_mul] at this
  omega

/-- A disk of the call's own, written: the variadic call with one part. -/
theorem write_own {w0 W : World} {pd : Nat} {p : Pl} {d : DS} {n : Int} {A : Option Addr} {l : List UInt8} {k c : Nat} (hO : Own w0 pd p d W) (ok : d.Ok) (hl : l.length = k) (hk : k ≤ 140737488351232) (hr : Rd W A l) :
    Calls Try.prog 13 #[.pointer (some ⟨pd, 0, none⟩), .int .i64 n, .slice (some ⟨W.heap.size, 0, none⟩) 1 1] (W.alloc (.cells #[.slice A k c] 33)) fun e w' => e = .returned (.int .i64 (d.write n l).1) ∧ ∃ p', Own w0 pd p' (d.write n l).2 w' := by
  refine (write_any (n := n) (c := 1) (A := some ⟨W.heap.size, 0, none⟩) (ls := [l]) (l := l) (m := 1) (hO.below (below_alloc W _)).disk ok (by simp) rfl (by omega) (by omega) (rdl_one hr hl)).mono ?_
  rintro e w' ⟨he, p', hA⟩
  exact ⟨he, p', (hO.below (below_alloc W _)).act hA⟩

/-- A disk of the call's own, read. -/
theorem read_own {w0 W : World} {pd : Nat} {p : Pl} {d : DS} {n : Int} (hO : Own w0 pd p d W) (ok : d.Ok) {r : Nat} {l : List UInt8} (hrd : d.read n = (r, l)) {k : Nat} (hl : l.length = k) :
    Calls Try.prog 15 #[.pointer (some ⟨pd, 0, none⟩), .int .i64 n] W fun e w' => ∃ A c, e = .returned (.tuple #[.slice A k c, .int .i64 (r : Int)]) ∧ Rd w' A l ∧ k ≤ c ∧ Own w0 pd p d w' := by
  subst hl
  refine (read_as hrd (read_any hO.disk ok)).mono ?_
  rintro e w' ⟨A, c, he, hr, hc, hb⟩
  exact ⟨A, c, he, hr, hc, hO.below hb⟩
end Go.Proofs.Ytclbhhgifjegiaa
