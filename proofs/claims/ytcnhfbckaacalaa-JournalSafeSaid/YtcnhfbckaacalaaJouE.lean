/- Plain laws of a journal's blocks: what is in a block behind a write; what each block of the area says. -/
import Derived.Test.YtcnhfbckaacalaaJouP
namespace Go.Proofs.Ytcnhfbckaacalaa
open Go.RowKit
set_option linter.unusedVariables false

/-- A block of bytes and zeros behind them. -/
def padB (size : Nat) (l : List UInt8) : List UInt8 := l ++ List.replicate (size - l.length) 0
theorem padB_len {size : Nat} {l : List UInt8} (h : l.length ≤ size) : (padB size l).length = size := by simp [padB]; omega

theorem splice_get (b : List UInt8) (off : Nat) (x : List UInt8) (h : off + x.length ≤ b.length) (j : Nat) : (spliceB b off x)[j]? = if off ≤ j ∧ j < off + x.length then x[j - off]? else b[j]? := by
  unfold spliceB
  have h1 : (b.take off).length = off := by simp; omega
  by_cases ha : j < off
  · rw [if_neg (by omega), List.append_assoc, List.getElem?_append_left (by omega)]
    simp [ha]
  · by_cases hb : j < off + x.length
    · rw [if_pos ⟨by omega, hb⟩, List.append_assoc, List.getElem?_append_right (by omega), h1, List.getElem?_append_left (by omega)]
    · rw [if_neg (by omega), List.getElem?_append_right (by simp; omega), List.getElem?_drop]
      congr 1
      simp
      omega
theorem putBlock_get (b : List UInt8) (off size : Nat) (l : List UInt8) (h : off + size ≤ b.length) (hl : l.length ≤ size) (j : Nat) : (putBlock b off size l)[j]? = if off ≤ j ∧ j < off + size then (padB size l)[j - off]? else b[j]? := by
  unfold putBlock
  have h1 := splice_len b off l (by omega)
  rw [splice_get _ _ _ (by rw [h1]; simp; omega), splice_get _ _ _ (by omega)]
  simp only [List.length_replicate]
  unfold padB
  by_cases ha : off + l.length ≤ j ∧ j < off + l.length + (size - l.length)
  · rw [if_pos ha, if_pos (by omega), List.getElem?_append_right (by omega)]
    congr 1
    omega
  · rw [if_neg ha]
    by_cases hb : off ≤ j ∧ j < off + l.length
    · rw [if_pos hb, if_pos (by omega), List.getElem?_append_left (by omega)]
    · rw [if_neg hb, if_neg (by omega)]

theorem block_get (d : DS) (i k : Nat) : (d.blockB i)[k]? = if k < d.size then d.bytes[i * d.size + k]? else none := by
  unfold DS.blockB
  by_cases h : k < d.size
  · rw [if_pos h, List.getElem?_take, if_pos h, List.getElem?_drop]
  · rw [if_neg h, List.getElem?_take, if_neg h]

theorem block_len {d : DS} (ok : d.Ok) {i : Nat} (hi : i < d.nb) : (d.blockB i).length = d.size := by
  have := blk_lim ok hi
  unfold DS.blockB
  simp
  omega

section
variable {d : DS} {n : Int} {l : List UInt8}
/-- A write that is done. -/
theorem write_done (hn : 0 ≤ n ∧ n < d.nb) (hl : l.length ≤ d.size) (ho : d.off = false) (hlf : d.left ≠ 0) :
    d.write n l = (0, { d with bytes := putBlock d.bytes (n.toNat * d.size) d.size l, log := d.log ++ [n], left := if 0 < d.left then d.left - 1 else d.left }) := by
  unfold DS.write
  rw [if_neg (by simp [DS.hasB]; omega), if_neg (by omega), if_neg (by rw [ho]; simp), if_neg hlf]

theorem write_block (ok : d.Ok) (hn : 0 ≤ n ∧ n < d.nb) (hl : l.length ≤ d.size) (ho : d.off = false) (hlf : d.left ≠ 0) (i : Nat) (hi : i < d.nb) :
    (d.write n l).2.blockB i = if (i : Int) = n then padB d.size l else d.blockB i := by
  rw [write_done hn hl ho hlf]
  have hlim := blk_lim ok (n := n.toNat) (by omega)
  apply List.ext_getElem?
  intro k
  rw [block_get]
  show (if k < d.size then (putBlock d.bytes (n.toNat * d.size) d.size l)[i * d.size + k]? else none) = _
  by_cases hk : k < d.size
  · rw [if_pos hk, putBlock_get _ _ _ _ (by omega) hl]
    by_cases hin : (i : Int) = n
    · rw [if_pos hin]
      obtain rfl : n.toNat = i := by omega
      rw [if_pos (by omega)]
      congr 1
      omega
    · rw [if_neg hin, block_get, if_pos hk, if_neg]
      intro ⟨h1, h2⟩
      rcases Nat.lt_or_gt_of_ne (show i ≠ n.toNat by omega) with h3 | h3
      · have := Nat.mul_le_mul_right d.size (show i + 1 ≤ n.toNat from h3)
        rw [Nat.succ_mul] at this
        omega
      · have := Nat.mul_le_mul_right d.size (show n.toNat + 1 ≤ i from h3)
        rw [Nat.succ_mul] at this
        omega
  · rw [if_neg hk]
    split
    · rw [List.getElem?_eq_none]
      rw [padB_len hl]
      omega
    · rw [block_get, if_neg hk]
end

/-- What a block of an area says in an epoch. -/
def jcell (D : DS) (fr ep i : Nat) : Option (Nat × List UInt8) := (getP (D.blockB (fr + i))).bind fun x => if x.1 ≠ 74 ∨ x.2.1 ≠ jnum ep (lifeOf x.2.1) i then none else some (lifeOf x.2.1, x.2.2)
def cstep (rm life : Nat) (c : Option (Nat × List UInt8)) : Option (Bool × Nat × List UInt8) := c.bind fun x => if x.1 < life then none else some (decide (x.2.length < rm), x.1, x.2)
theorem jst_cell (D : DS) (fr ep i life : Nat) : jst D fr ep i life = cstep (D.size - 15) life (jcell D fr ep i) := by
  unfold jst jcell cstep jstep
  cases getP (D.blockB (fr + i)) with
  | none => rfl
  | some x =>
    simp only [Option.bind_some]
    by_cases h1 : x.1 ≠ 74 ∨ x.2.1 ≠ jnum ep (lifeOf x.2.1) i
    · rw [if_pos (by rcases h1 with h | h; exact .inl h; exact .inr (.inl h)), if_pos h1]; rfl
    · rw [if_neg h1, Option.bind_some]
      by_cases h2 : lifeOf x.2.1 < x.2.1 * 0 + life
      · rw [if_pos (.inr (.inr (by omega))), if_pos (by omega)]
      · rw [if_neg (by rintro (h | h | h); exact h1 (.inl h); exact h1 (.inr h); omega), if_neg (by omega)]
theorem lifeOf_jnum {ep l i : Nat} (hl : l ≤ 1048575) (hi : i ≤ 16384) : lifeOf (jnum ep l i) = l := by
  unfold lifeOf jnum; omega
theorem jnum_inj {ep l i ep' l' i' : Nat} (hl : l ≤ 1048575) (hi : i ≤ 16384) (hl' : l' ≤ 1048575) (hi' : i' ≤ 16384) (h : jnum ep l i = jnum ep' l' i') : ep = ep' ∧ l = l' ∧ i = i' := by
  unfold jnum at h; omega
theorem lifeOf_le (n : Nat) : lifeOf n ≤ 1048575 := by unfold lifeOf; omega
/-- The same blocks say the same. -/
theorem jcell_same {D D' : DS} (h : ∀ n, D'.blockB n = D.blockB n) (fr ep i : Nat) : jcell D' fr ep i = jcell D fr ep i := by
  unfold jcell; rw [h]
theorem jcell_zero {D : DS} {fr ep i : Nat} (h : getP (D.blockB (fr + i)) = none) : jcell D fr ep i = none := by
  unfold jcell; rw [h]; rfl
theorem jcell_fresh {nb fr i : Nat} (ep : Nat) (h : fr + i < nb) (hn : nb ≤ 16384) : jcell (DS.fresh nb 64) fr ep i = none := by
  apply jcell_zero
  have e : (DS.fresh nb 64).blockB (fr + i) = List.replicate 64 0 := by
    unfold DS.blockB DS.fresh
    simp only [List.drop_replicate, List.take_replicate]
    congr 1
    have : (fr + i + 1) * 64 ≤ nb * 64 := Nat.mul_le_mul_right _ (by omega)
    omega
  rw [e]; exact get_zeros
section
variable {J : JV} {D : DS}
theorem wr_lt (hj : JOk J D) (hl : J.blk D < J.len) : J.blk D ≤ 16384 ∧ J.from_ + J.blk D < D.nb := by
  have := hj.area; have := hj.l2
  exact ⟨by omega, by omega⟩
theorem load_le (ok : D.Ok) : (J.load D).length ≤ D.size - 15 := by
  unfold JV.load JV.to_
  rw [List.length_take, Nat.succ_mul]
  omega
/-- A write that is done. -/
theorem wr_yes (ok : D.Ok) (hj : JOk J D) (hoff : D.off = false) (hleft : D.left ≠ 0) (hl : J.blk D < J.len) (hlg : D.log.length + 1 ≤ 1000000) :
    (J.wr D).1 = 0 ∧ (J.wr D).2.1 = { J with safe := J.to_ D } ∧ (J.wr D).2.2.off = false ∧ (J.wr D).2.2.left = (if 0 < D.left then D.left - 1 else D.left) ∧ (J.wr D).2.2.size = D.size ∧ (J.wr D).2.2.nb = D.nb ∧ (J.wr D).2.2.log.length = D.log.length + 1 ∧ (J.wr D).2.2.Ok ∧
    ∀ ep i, J.from_ + i < D.nb → i ≤ 16384 → jcell (J.wr D).2.2 J.from_ ep i = if i = J.blk D then (if ep = J.epoch then some (J.life, J.load D) else none) else jcell D J.from_ ep i := by
  obtain ⟨hb, hn⟩ := wr_lt hj hl
  have hs1 := ok.s1
  have hs2 := ok.s2
  have hll := load_le (J := J) ok
  have hnum : jnum J.epoch J.life (J.blk D) < 18446744073709551616 := by have := hj.ep; have := hj.lf2; unfold jnum; omega
  have hlen : (J.image D).length = D.size := by unfold JV.image; exact sealed_len ok.s1 (by omega)
  have hw := write_done (d := D) (n := ((J.from_ + J.blk D : Nat) : Int)) (l := J.image D) ⟨by omega, by omega⟩ (by omega) hoff hleft
  have hB : ∀ i, i < D.nb → (D.write ((J.from_ + J.blk D : Nat) : Int) (J.image D)).2.blockB i = if (i : Int) = ((J.from_ + J.blk D : Nat) : Int) then padB D.size (J.image D) else D.blockB i := fun i hi => write_block ok ⟨by omega, by omega⟩ (by omega) hoff hleft i hi
  have hp : padB D.size (J.image D) = J.image D := by unfold padB; rw [hlen, Nat.sub_self]; simp
  have hokw : (D.write ((J.from_ + J.blk D : Nat) : Int) (J.image D)).2.Ok := DS.write_ok_ ok hlg
  have hwr : J.wr D = (0, { J with safe := J.to_ D }, (D.write ((J.from_ + J.blk D : Nat) : Int) (J.image D)).2) := by
    unfold JV.wr
    simp only
    rw [if_pos (by rw [hw])]
  rw [hwr]
  refine ⟨rfl, rfl, ?_, ?_, ?_, ?_, ?_, hokw, fun ep i hi hi2 => ?_⟩
  · show (D.write _ _).2.off = false
    rw [hw]; exact hoff
  · show (D.write _ _).2.left = _
    rw [hw]
  · show (D.write _ _).2.size = _
    rw [hw]
  · show (D.write _ _).2.nb = _
    rw [hw]
  · show (D.write _ _).2.log.length = _
    rw [hw]; simp
  · show jcell (D.write _ _).2 J.from_ ep i = _
    by_cases h1 : i = J.blk D
    · rw [if_pos h1]
      have e : (D.write ((J.from_ + J.blk D : Nat) : Int) (J.image D)).2.blockB (J.from_ + i) = J.image D := by
        rw [hB _ hi, if_pos (by rw [h1]), hp]
      unfold jcell
      rw [e]
      unfold JV.image
      rw [get_sealed hs1 hs2 (by omega) (by omega) hnum (by omega), Option.bind_some]
      simp only
      rw [lifeOf_jnum hj.lf2 hb]
      by_cases h2 : ep = J.epoch
      · rw [if_pos h2, if_neg]
        rintro (h | h)
        · exact h rfl
        · exact h (by rw [h2, h1])
      · rw [if_neg h2, if_pos]
        refine .inr fun h => h2 (jnum_inj hj.lf2 hb hj.lf2 hi2 h).1.symm
    · rw [if_neg h1]
      unfold jcell
      rw [hB _ hi, if_neg (by omega)]
/-- A write that is not. -/
theorem wr_no (ok : D.Ok) (hj : JOk J D) (hno : D.off = true ∨ D.left = 0) (hl : J.blk D < J.len) :
    (J.wr D).1 ≠ 0 ∧ (J.wr D).2.1 = { J with broken := true } ∧ (J.wr D).2.2 = { D with off := true } := by
  obtain ⟨hb, hn⟩ := wr_lt hj hl
  have hs1 := ok.s1
  have hll := load_le (J := J) ok
  have hlen : (J.image D).length = D.size := by unfold JV.image; exact sealed_len ok.s1 (by omega)
  have hw : D.write ((J.from_ + J.blk D : Nat) : Int) (J.image D) = (20, { D with off := true }) := by
    unfold DS.write
    rw [if_neg (by simp [DS.hasB]; omega), if_neg (by omega)]
    by_cases h1 : D.off = true
    · rw [if_pos h1]
      congr 1
      cases D; simp only at h1 ⊢; subst h1; rfl
    · rw [if_neg h1, if_pos (hno.resolve_left h1)]
  have hwr : J.wr D = (20, { J with broken := true }, { D with off := true }) := by
    unfold JV.wr
    simp only
    rw [hw]
    simp
  rw [hwr]
  exact ⟨by show (20 : Nat) ≠ 0; omega, rfl, rfl⟩
end
end Go.Proofs.Ytcnhfbckaacalaa
