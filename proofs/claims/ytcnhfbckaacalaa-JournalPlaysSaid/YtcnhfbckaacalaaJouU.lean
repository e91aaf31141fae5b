/- Plain laws of a journal's blocks: what is in a block behind a write; what each block of the area says. What is laid is read back; what is cut off is told: the plain laws of SpoolBack and SpoolShort. No program is named here. Plain laws of a journal's stream: the records of a beginning of laid records. No program is named here. Plain laws of a journal and its disk: what is found again. No program is named here. Plain laws of Append and Flush. No program is named here. Plain laws of a journal on a disk whose power stays on. No program is named here. -/
import Derived.Test.YtcnhfbckaacalaaJouP
import Derived.Test.YtcnhfbckaacalaaTapeB
import Derived.Test.YtcnhfbckaacalaaLays
namespace Go.Proofs.Ytcnhfbckaacalaa
section
open Go.RowKit
set_option linter.unusedVariables false

/-- A block of bytes and zeros behind them. -/
def padB (size : Nat) (l : List UInt8) : List UInt8 := l ++ List.replicate (size - l.length) 0
theorem padB_len {size : Nat} {l : List UInt8} (h : l.length ≤ size) : (padB size l).length = size := by simp [padB]; omega

theorem splice_get (b : List UInt8) (off : Nat) (x : List UInt8) (h : off + x.length ≤ b.length) (j : Nat) : (spliceB b off x)[j]? = if off ≤ j ∧ j < off + x.length then x[j - off]? else b[j]? := by
  unfold spliceB
  have h1 : (b.take off).length = off := by simp; omega
  by_cases ha : j < off
  · rw [if_neg (by omega), List.append_assoc, List.getElem?_append_left (by omega)]
    simp [ha]
  · by_cases hb : j < off + x.length
    · rw [if_pos ⟨by omega, hb⟩, List.append_assoc, List.getElem?_append_right (by omega), h1, List.getElem?_append_left (by omega)]
    · rw [if_neg (by omega), List.getElem?_append_right (by simp; omega), List.getElem?_drop]
      congr 1
      simp
      omega
theorem putBlock_get (b : List UInt8) (off size : Nat) (l : List UInt8) (h : off + size ≤ b.length) (hl : l.length ≤ size) (j : Nat) : (putBlock b off size l)[j]? = if off ≤ j ∧ j < off + size then (padB size l)[j - off]? else b[j]? := by
  unfold putBlock
  have h1 := splice_len b off l (by omega)
  rw [splice_get _ _ _ (by rw [h1]; simp; omega), splice_get _ _ _ (by omega)]
  simp only [List.length_replicate]
  unfold padB
  by_cases ha : off + l.length ≤ j ∧ j < off + l.length + (size - l.length)
  · rw [if_pos ha, if_pos (by omega), List.getElem?_append_right (by omega)]
    congr 1
    omega
  · rw [if_neg ha]
    by_cases hb : off ≤ j ∧ j < off + l.length
    · rw [if_pos hb, if_pos (by omega), List.getElem?_append_left (by omega)]
    · rw [if_neg hb, if_neg (by omega)]

theorem block_get (d : DS) (i k : Nat) : (d.blockB i)[k]? = if k < d.size then d.bytes[i * d.size + k]? else none := by
  unfold DS.blockB
  by_cases h : k < d.size
  · rw [if_pos h, List.getElem?_take, if_pos h, List.getElem?_drop]
  · rw [if_neg h, List.getElem?_take, if_neg h]

theorem block_len {d : DS} (ok : d.Ok) {i : Nat} (hi : i < d.nb) : (d.blockB i).length = d.size := by
  have := blk_lim ok hi
  unfold DS.blockB
  simp
  omega

section
variable {d : DS} {n : Int} {l : List UInt8}
/-- A write that is done. -/
theorem write_done (hn : 0 ≤ n ∧ n < d.nb) (hl : l.length ≤ d.size) (ho : d.off = false) (hlf : d.left ≠ 0) :
    d.write n l = (0, { d with bytes := putBlock d.bytes (n.toNat * d.size) d.size l, log := d.log ++ [n], left := if 0 < d.left then d.left - 1 else d.left }) := by
  unfold DS.write
  rw [if_neg (by simp [DS.hasB]; omega), if_neg (by omega), if_neg (by rw [ho]; simp), if_neg hlf]

theorem write_block (ok : d.Ok) (hn : 0 ≤ n ∧ n < d.nb) (hl : l.length ≤ d.size) (ho : d.off = false) (hlf : d.left ≠ 0) (i : Nat) (hi : i < d.nb) :
    (d.write n l).2.blockB i = if (i : Int) = n then padB d.size l else d.blockB i := by
  rw [write_done hn hl ho hlf]
  have hlim := blk_lim ok (n := n.toNat) (by omega)
  apply List.ext_getElem?
  intro k
  rw [block_get]
  show (if k < d.size then (putBlock d.bytes (n.toNat * d.size) d.size l)[i * d.size + k]? else none) = _
  by_cases hk : k < d.size
  · rw [if_pos hk, putBlock_get _ _ _ _ (by omega) hl]
    by_cases hin : (i : Int) = n
    · rw [if_pos hin]
      obtain rfl : n.toNat = i := by omega
      rw [if_pos (by omega)]
      congr 1
      omega
    · rw [if_neg hin, block_get, if_pos hk, if_neg]
      intro ⟨h1, h2⟩
      rcases Nat.lt_or_gt_of_ne (show i ≠ n.toNat by omega) with h3 | h3
      · have := Nat.mul_le_mul_right d.size (show i + 1 ≤ n.toNat from h3)
        rw [Nat.succ_mul] at this
        omega
      · have := Nat.mul_le_mul_right d.size (show n.toNat + 1 ≤ i from h3)
        rw [Nat.succ_mul] at this
        omega
  · rw [if_neg hk]
    split
    · rw [List.getElem?_eq_none]
      rw [padB_len hl]
      omega
    · rw [block_get, if_neg hk]
end

/-- What a block of an area says in an epoch. -/
def jcell (D : DS) (fr ep i : Nat) : Option (Nat × List UInt8) := (getP (D.blockB (fr + i))).bind fun x => if x.1 ≠ 74 ∨ x.2.1 ≠ jnum ep (lifeOf x.2.1) i then none else some (lifeOf x.2.1, x.2.2)
def cstep (rm life : Nat) (c : Option (Nat × List UInt8)) : Option (Bool × Nat × List UInt8) := c.bind fun x => if x.1 < life then none else some (decide (x.2.length < rm), x.1, x.2)
theorem jst_cell (D : DS) (fr ep i life : Nat) : jst D fr ep i life = cstep (D.size - 15) life (jcell D fr ep i) := by
  unfold jst jcell cstep jstep
  cases getP (D.blockB (fr + i)) with
  | none => rfl
  | some x =>
    simp only [Option.bind_some]
    by_cases h1 : x.1 ≠ 74 ∨ x.2.1 ≠ jnum ep (lifeOf x.2.1) i
    · rw [if_pos (by rcases h1 with h | h; exact .inl h; exact .inr (.inl h)), if_pos h1]; rfl
    · rw [if_neg h1, Option.bind_some]
      by_cases h2 : lifeOf x.2.1 < x.2.1 * 0 + life
      · rw [if_pos (.inr (.inr (by omega))), if_pos (by omega)]
      · rw [if_neg (by rintro (h | h | h); exact h1 (.inl h); exact h1 (.inr h); omega), if_neg (by omega)]
theorem lifeOf_jnum {ep l i : Nat} (hl : l ≤ 1048575) (hi : i ≤ 16384) : lifeOf (jnum ep l i) = l := by
  unfold lifeOf jnum; omega
theorem jnum_inj {ep l i ep' l' i' : Nat} (hl : l ≤ 1048575) (hi : i ≤ 16384) (hl' : l' ≤ 1048575) (hi' : i' ≤ 16384) (h : jnum ep l i = jnum ep' l' i') : ep = ep' ∧ l = l' ∧ i = i' := by
  unfold jnum at h; omega
theorem lifeOf_le (n : Nat) : lifeOf n ≤ 1048575 := by unfold lifeOf; omega
/-- The same blocks say the same. -/
theorem jcell_same {D D' : DS} (h : ∀ n, D'.blockB n = D.blockB n) (fr ep i : Nat) : jcell D' fr ep i = jcell D fr ep i := by
  unfold jcell; rw [h]
theorem jcell_zero {D : DS} {fr ep i : Nat} (h : getP (D.blockB (fr + i)) = none) : jcell D fr ep i = none := by
  unfold jcell; rw [h]; rfl
theorem jcell_fresh {nb fr i : Nat} (ep : Nat) (h : fr + i < nb) (hn : nb ≤ 16384) : jcell (DS.fresh nb 64) fr ep i = none := by
  apply jcell_zero
  have e : (DS.fresh nb 64).blockB (fr + i) = List.replicate 64 0 := by
    unfold DS.blockB DS.fresh
    simp only [List.drop_replicate, List.take_replicate]
    congr 1
    have : (fr + i + 1) * 64 ≤ nb * 64 := Nat.mul_le_mul_right _ (by omega)
    omega
  rw [e]; exact get_zeros
section
variable {J : JV} {D : DS}
theorem wr_lt (hj : JOk J D) (hl : J.blk D < J.len) : J.blk D ≤ 16384 ∧ J.from_ + J.blk D < D.nb := by
  have := hj.area; have := hj.l2
  exact ⟨by omega, by omega⟩
theorem load_le (ok : D.Ok) : (J.load D).length ≤ D.size - 15 := by
  unfold JV.load JV.to_
  rw [List.length_take, Nat.succ_mul]
  omega
/-- A write that is done. -/
theorem wr_yes (ok : D.Ok) (hj : JOk J D) (hoff : D.off = false) (hleft : D.left ≠ 0) (hl : J.blk D < J.len) (hlg : D.log.length + 1 ≤ 1000000) :
    (J.wr D).1 = 0 ∧ (J.wr D).2.1 = { J with safe := J.to_ D } ∧ (J.wr D).2.2.off = false ∧ (J.wr D).2.2.left = (if 0 < D.left then D.left - 1 else D.left) ∧ (J.wr D).2.2.size = D.size ∧ (J.wr D).2.2.nb = D.nb ∧ (J.wr D).2.2.log.length = D.log.length + 1 ∧ (J.wr D).2.2.Ok ∧
    ∀ ep i, J.from_ + i < D.nb → i ≤ 16384 → jcell (J.wr D).2.2 J.from_ ep i = if i = J.blk D then (if ep = J.epoch then some (J.life, J.load D) else none) else jcell D J.from_ ep i := by
  obtain ⟨hb, hn⟩ := wr_lt hj hl
  have hs1 := ok.s1
  have hs2 := ok.s2
  have hll := load_le (J := J) ok
  have hnum : jnum J.epoch J.life (J.blk D) < 18446744073709551616 := by have := hj.ep; have := hj.lf2; unfold jnum; omega
  have hlen : (J.image D).length = D.size := by unfold JV.image; exact sealed_len ok.s1 (by omega)
  have hw := write_done (d := D) (n := ((J.from_ + J.blk D : Nat) : Int)) (l := J.image D) ⟨by omega, by omega⟩ (by omega) hoff hleft
  have hB : ∀ i, i < D.nb → (D.write ((J.from_ + J.blk D : Nat) : Int) (J.image D)).2.blockB i = if (i : Int) = ((J.from_ + J.blk D : Nat) : Int) then padB D.size (J.image D) else D.blockB i := fun i hi => write_block ok ⟨by omega, by omega⟩ (by omega) hoff hleft i hi
  have hp : padB D.size (J.image D) = J.image D := by unfold padB; rw [hlen, Nat.sub_self]; simp
  have hokw : (D.write ((J.from_ + J.blk D : Nat) : Int) (J.image D)).2.Ok := DS.write_ok_ ok hlg
  have hwr : J.wr D = (0, { J with safe := J.to_ D }, (D.write ((J.from_ + J.blk D : Nat) : Int) (J.image D)).2) := by
    unfold JV.wr
    simp only
    rw [if_pos (by rw [hw])]
  rw [hwr]
  refine ⟨rfl, rfl, ?_, ?_, ?_, ?_, ?_, hokw, fun ep i hi hi2 => ?_⟩
  · show (D.write _ _).2.off = false
    rw [hw]; exact hoff
  · show (D.write _ _).2.left = _
    rw [hw]
  · show (D.write _ _).2.size = _
    rw [hw]
  · show (D.write _ _).2.nb = _
    rw [hw]
  · show (D.write _ _).2.log.length = _
    rw [hw]; simp
  · show jcell (D.write _ _).2 J.from_ ep i = _
    by_cases h1 : i = J.blk D
    · rw [if_pos h1]
      have e : (D.write ((J.from_ + J.blk D : Nat) : Int) (J.image D)).2.blockB (J.from_ + i) = J.image D := by
        rw [hB _ hi, if_pos (by rw [h1]), hp]
      unfold jcell
      rw [e]
      unfold JV.image
      rw [get_sealed hs1 hs2 (by omega) (by omega) hnum (by omega), Option.bind_some]
      simp only
      rw [lifeOf_jnum hj.lf2 hb]
      by_cases h2 : ep = J.epoch
      · rw [if_pos h2, if_neg]
        rintro (h | h)
        · exact h rfl
        · exact h (by rw [h2, h1])
      · rw [if_neg h2, if_pos]
        refine .inr fun h => h2 (jnum_inj hj.lf2 hb hj.lf2 hi2 h).1.symm
    · rw [if_neg h1]
      unfold jcell
      rw [hB _ hi, if_neg (by omega)]
/-- A write that is not. -/
theorem wr_no (ok : D.Ok) (hj : JOk J D) (hno : D.off = true ∨ D.left = 0) (hl : J.blk D < J.len) :
    (J.wr D).1 ≠ 0 ∧ (J.wr D).2.1 = { J with broken := true } ∧ (J.wr D).2.2 = { D with off := true } := by
  obtain ⟨hb, hn⟩ := wr_lt hj hl
  have hs1 := ok.s1
  have hll := load_le (J := J) ok
  have hlen : (J.image D).length = D.size := by unfold JV.image; exact sealed_len ok.s1 (by omega)
  have hw : D.write ((J.from_ + J.blk D : Nat) : Int) (J.image D) = (20, { D with off := true }) := by
    unfold DS.write
    rw [if_neg (by simp [DS.hasB]; omega), if_neg (by omega)]
    by_cases h1 : D.off = true
    · rw [if_pos h1]
      congr 1
      cases D; simp only at h1 ⊢; subst h1; rfl
    · rw [if_neg h1, if_pos (hno.resolve_left h1)]
  have hwr : J.wr D = (20, { J with broken := true }, { D with off := true }) := by
    unfold JV.wr
    simp only
    rw [hw]
    simp
  rw [hwr]
  exact ⟨by show (20 : Nat) ≠ 0; omega, rfl, rfl⟩
end
end
section
open Go.RowKit
set_option linter.unusedVariables false

theorem ofNat_wid (n : Nat) : (UInt8.ofNat (wid n)).toNat = wid n := by
  have := wid_le n
  simp; omega
theorem ofNat_wid128 (n : Nat) : (UInt8.ofNat (wid n + 128)).toNat = wid n + 128 := by
  have := wid_le n
  simp; omega
theorem be_head_ne {n k : Nat} (hn : n < 18446744073709551616) (hk : wid n = k + 1) : UInt8.ofNat (n / 256 ^ k) ≠ 0 := by
  have h1 := wid_ge hn hk
  have h2 := wid_lt n hn
  rw [hk, Nat.pow_succ] at h2
  have h3 : 0 < n / 256 ^ k := Nat.div_pos h1 (Nat.pow_pos (by omega))
  have h4 : n / 256 ^ k < 256 := Nat.div_lt_of_lt_mul (by omega)
  intro e
  have h5 : (UInt8.ofNat (n / 256 ^ k)).toNat = 0 := by rw [e]; rfl
  simp at h5
  omega
theorem told_wid {n : Nat} (hn : n < 18446744073709551616) : toldN (be (wid n) n) = n := by
  rw [told_be _ _ (wid_le n), Nat.mod_eq_of_lt (wid_lt n hn)]

section
variable {t : TS} {n : Nat} {r : List UInt8}
theorem rest_at (b : Bool) (hn : n < 18446744073709551616) (h : t.bytes.drop (t.pos + 1) = be (wid n) n ++ r) :
    t.rest (wid n) b = ((n, b), { t with pos := t.pos + 1 + wid n }) := by
  unfold TS.rest
  have hl : t.bytes.length - (t.pos + 1) = wid n + r.length := by
    have := congrArg List.length h
    simpa [be_length] using this
  rw [if_neg (by have := wid_le n; omega), if_neg (by omega), if_neg, h, List.take_append_of_le_length (by rw [be_length]; omega), List.take_of_length_le (by rw [be_length]; omega), told_wid hn]
  rintro ⟨h1, h2⟩
  obtain ⟨k, hk⟩ : ∃ k, wid n = k + 1 := ⟨wid n - 1, by omega⟩
  rw [h, hk] at h2
  simp only [be, List.cons_append, List.head?_cons] at h2
  exact be_head_ne hn hk (Option.some.inj h2)
theorem head_at {x : UInt8} {l : List UInt8} (h : t.bytes.drop t.pos = x :: l) : t.bytes[t.pos]? = some x ∧ t.bytes.drop (t.pos + 1) = l := by
  constructor
  · have := congrArg (fun l => l[0]?) h
    simpa using this
  · rw [← List.drop_drop, h]; rfl
theorem number_at (hf : t.fault = 0) (hn : n < 18446744073709551616) (h : t.bytes.drop t.pos = laidB n 0 ++ r) :
    t.number false = ((n, false), { t with pos := t.pos + (wid n + 1) }) := by
  obtain ⟨h1, h2⟩ := head_at (show t.bytes.drop t.pos = UInt8.ofNat (wid n) :: (be (wid n) n ++ r) from h)
  unfold TS.number
  rw [if_pos hf, h1]
  simp only [Bool.false_eq_true, false_and, if_false]
  rw [ofNat_wid, rest_at false hn h2, show t.pos + 1 + wid n = t.pos + (wid n + 1) by omega]
theorem number_at_s {more : Nat} (hm : more = 0 ∨ more = 128) (hf : t.fault = 0) (hn : n < 18446744073709551616) (h : t.bytes.drop t.pos = laidB n more ++ r) :
    t.number true = ((n, decide (more = 128)), { t with pos := t.pos + (wid n + 1) }) := by
  obtain ⟨h1, h2⟩ := head_at (show t.bytes.drop t.pos = UInt8.ofNat (wid n + more) :: (be (wid n) n ++ r) from h)
  have hw := wid_le n
  unfold TS.number
  rw [if_pos hf, h1]
  simp only [true_and]
  rcases hm with rfl | rfl
  · rw [Nat.add_zero, ofNat_wid, if_neg (by omega), rest_at false hn h2, show t.pos + 1 + wid n = t.pos + (wid n + 1) by omega]
    rfl
  · rw [ofNat_wid128, if_pos (by omega), Nat.add_sub_cancel, rest_at true hn h2, show t.pos + 1 + wid n = t.pos + (wid n + 1) by omega]
    rfl
theorem int_at {z : Int} (hf : t.fault = 0) (h1 : -9223372036854775808 ≤ z) (h2 : z ≤ 9223372036854775807) (h : t.bytes.drop t.pos = laidI z ++ r) :
    t.int = (z, { t with pos := t.pos + (laidI z).length }) := by
  by_cases hz : z < 0
  · have e : laidI z = laidB (-(z + 1)).toNat 128 := by unfold laidI; rw [if_pos hz]
    rw [e] at h ⊢
    have hx := number_at_s (more := 128) (.inr rfl) hf (by omega) h
    unfold TS.int
    rw [hx, laidB_len]
    simp only
    rw [if_neg (by omega), if_pos (by rfl)]
    congr 1
    omega
  · have e : laidI z = laidB z.toNat 0 := by unfold laidI; rw [if_neg hz]
    rw [e] at h ⊢
    have hx := number_at_s (more := 0) (.inl rfl) hf (by omega) h
    unfold TS.int
    rw [hx, laidB_len]
    simp only
    rw [if_neg (by omega), if_neg (by decide)]
    congr 1
    omega
theorem str_at {s : List UInt8} {most : Int} (hf : t.fault = 0) (hs : s.length < 18446744073709551616) (hm : (s.length : Int) ≤ most) (h : t.bytes.drop t.pos = laidS s ++ r) :
    t.str most = (s, { t with pos := t.pos + (laidS s).length }) := by
  unfold laidS at h ⊢
  rw [List.append_assoc] at h
  have hx := number_at hf hs h
  have hd : t.bytes.drop (t.pos + (wid s.length + 1)) = s ++ r := by
    rw [← List.drop_drop, h, List.drop_append_of_le_length (by rw [laidB_len]; omega), List.drop_of_length_le (by rw [laidB_len]; omega)]
    rfl
  have hl : t.bytes.length - (t.pos + (wid s.length + 1)) = s.length + r.length := by
    have := congrArg List.length hd
    simpa using this
  unfold TS.str
  rw [hx]
  simp only
  rw [if_neg (by simp [hf]), if_neg (by omega), if_neg (by omega), hd, List.take_append_of_le_length (Nat.le_refl _), List.take_of_length_le (Nat.le_refl _), List.length_append, laidB_len, Nat.add_assoc]
theorem number_stopped_eq (hf : t.fault ≠ 0) (b : Bool) : t.number b = ((0, false), t) := by unfold TS.number; rw [if_neg hf]
theorem str_stopped (hf : t.fault ≠ 0) (most : Int) : t.str most = ([], t) := by
  unfold TS.str
  rw [number_stopped_eq hf]
  simp only
  rw [if_pos hf]
theorem number_cut {k : Nat} (hf : t.fault = 0) (hk : k < (laidB n 0).length) (h : t.bytes.drop t.pos = (laidB n 0).take k) :
    t.number false = ((0, false), t.stops 3 t.pos) := by
  unfold TS.number
  rw [if_pos hf]
  rcases k with _ | k
  · have h1 : t.bytes[t.pos]? = none := by
      have := congrArg (fun l => l[0]?) h
      simpa using this
    rw [h1]
  · obtain ⟨h1, h2⟩ := head_at (show t.bytes.drop t.pos = UInt8.ofNat (wid n) :: (be (wid n) n).take k from h)
    rw [h1]
    simp only [Bool.false_eq_true, false_and, if_false]
    rw [ofNat_wid]
    have hl : t.bytes.length - (t.pos + 1) ≤ k := by
      have := congrArg List.length h2
      simp at this
      omega
    unfold TS.rest
    rw [laidB_len] at hk
    rw [if_neg (by have := wid_le n; omega), if_pos (by omega)]
theorem str_cut {s : List UInt8} {most : Int} {k : Nat} (hf : t.fault = 0) (hs : s.length < 18446744073709551616) (hm : (s.length : Int) ≤ most) (hk : k < (laidS s).length) (h : t.bytes.drop t.pos = (laidS s).take k) :
    t.str most = ([], t.stops 3 t.pos) := by
  unfold laidS at h hk
  by_cases hc : k < (laidB s.length 0).length
  · rw [List.take_append_of_le_length (by omega)] at h
    have hx := number_cut hf hc h
    unfold TS.str
    rw [hx]
    simp only
    rw [if_pos (by show (3 : Nat) ≠ 0; omega)]
  · rw [List.take_append, List.take_of_length_le (by omega)] at h
    have hx := number_at hf hs h
    have hd : t.bytes.drop (t.pos + (wid s.length + 1)) = s.take (k - (laidB s.length 0).length) := by
      rw [← List.drop_drop, h, List.drop_append_of_le_length (by rw [laidB_len]; omega), List.drop_of_length_le (by rw [laidB_len]; omega)]
      rfl
    rw [laidB_len] at hd hc
    rw [List.length_append, laidB_len] at hk
    have hl : t.bytes.length - (t.pos + (wid s.length + 1)) ≤ k - (wid s.length + 1) := by
      have := congrArg List.length hd
      simp at this
      omega
    unfold TS.str
    rw [hx]
    simp only
    rw [if_neg (by simp [hf]), if_neg (by omega), if_pos (by omega)]
    rfl
end
end
section
open Go.RowKit
set_option linter.unusedVariables false

theorem str_cut_any {t : TS} {s : List UInt8} {most : Int} {k : Nat} (hf : t.fault = 0) (hs : s.length < 18446744073709551616) (hk : k < (laidS s).length) (h : t.bytes.drop t.pos = (laidS s).take k) :
    (t.str most).2.fault ≠ 0 := by
  unfold laidS at h hk
  by_cases hc : k < (laidB s.length 0).length
  · rw [List.take_append_of_le_length (by omega)] at h
    have hx := number_cut hf hc h
    unfold TS.str
    rw [hx]
    simp only
    rw [if_pos (by show (3 : Nat) ≠ 0; omega)]
    show (3 : Nat) ≠ 0
    omega
  · rw [List.take_append, List.take_of_length_le (by omega)] at h
    have hx := number_at hf hs h
    have hd : t.bytes.drop (t.pos + (wid s.length + 1)) = s.take (k - (laidB s.length 0).length) := by
      rw [← List.drop_drop, h, List.drop_append_of_le_length (by rw [laidB_len]; omega), List.drop_of_length_le (by rw [laidB_len]; omega)]
      rfl
    rw [laidB_len] at hd hc
    rw [List.length_append, laidB_len] at hk
    have hl : t.bytes.length - (t.pos + (wid s.length + 1)) ≤ k - (wid s.length + 1) := by
      have := congrArg List.length hd
      simp at this
      omega
    unfold TS.str
    rw [hx]
    simp only
    rw [if_neg (by simp [hf])]
    split
    · show (1 : Nat) ≠ 0
      omega
    · rw [if_pos (by omega)]
      show (3 : Nat) ≠ 0
      omega
theorem laidS_pos (s : List UInt8) : 0 < (laidS s).length := by
  unfold laidS; rw [List.length_append, laidB_len]; omega
theorem laidSs_cons (s : List UInt8) (ss : List (List UInt8)) : laidSs (s :: ss) = laidS s ++ laidSs ss := by simp [laidSs]
theorem laidSs_app (a b : List (List UInt8)) : laidSs (a ++ b) = laidSs a ++ laidSs b := by simp [laidSs]
theorem laidSs_mono (all : List (List UInt8)) {j k : Nat} (h : j ≤ k) : (laidSs (all.take j)).length ≤ (laidSs (all.take k)).length := by
  have e : all.take k = all.take j ++ (all.take k).drop j := by
    have := List.take_append_drop j (all.take k)
    rw [List.take_take, Nat.min_eq_left h] at this
    exact this.symm
  rw [e, laidSs_app, List.length_append]; omega
theorem laidSs_lt (all : List (List UInt8)) {j k : Nat} (h : j < k) (hk : k ≤ all.length) : (laidSs (all.take j)).length < (laidSs (all.take k)).length := by
  have h1 := laidSs_mono all (show j + 1 ≤ k from h)
  have h2 : all.take (j + 1) = all.take j ++ [all[j]'(by omega)] := List.take_succ_eq_append_getElem (by omega)
  rw [h2, laidSs_snoc, List.length_append] at h1
  have := laidS_pos (all[j]'(by omega))
  omega
theorem jrecs_laid (most : Int) : ∀ (rest : List (List UInt8)) (k : Nat) (t : TS) (out : List (List UInt8)) (m : Nat), (∀ s ∈ rest, s.length < 18446744073709551616) → t.fault = 0 → (t.bytes.length : Int) ≤ most → m ≤ (laidSs rest).length → t.bytes.drop t.pos = (laidSs rest).take m → m < k →
    ∃ j, j ≤ rest.length ∧ jrecs (fun t => t.str most) k t out t.pos = (out ++ rest.take j, t.pos + (laidSs (rest.take j)).length) ∧ (laidSs (rest.take j)).length ≤ m ∧ (j < rest.length → m < (laidSs (rest.take (j + 1))).length)
  | [], k, t, out, m, hs, hf, hm, hml, hd, hk => by
    obtain ⟨k', rfl⟩ : ∃ k', k = k' + 1 := ⟨k - 1, by omega⟩
    have h1 := congrArg List.length hd
    simp [laidSs] at h1
    refine ⟨0, Nat.le_refl _, ?_, by simp [laidSs], fun h => by simp at h⟩
    rw [jrecs_end (.inl (by omega))]
    simp [laidSs]
  | s :: rest, k, t, out, m, hs, hf, hm, hml, hd, hk => by
    obtain ⟨k', rfl⟩ : ∃ k', k = k' + 1 := ⟨k - 1, by omega⟩
    have h1 := congrArg List.length hd
    rw [List.length_drop, List.length_take, Nat.min_eq_left hml] at h1
    have hpos := laidS_pos s
    by_cases hc : m < (laidS s).length
    · refine ⟨0, Nat.zero_le _, ?_, by simp [laidSs], fun _ => by simpa [laidSs] using hc⟩
      have hstop : t.bytes.length - t.pos = 0 ∨ (t.str most).2.fault ≠ 0 := by
        by_cases h0 : m = 0
        · exact .inl (by omega)
        · refine .inr (str_cut_any hf (hs s (by simp)) hc ?_)
          rw [hd, laidSs_cons, List.take_append_of_le_length (by omega)]
      rw [jrecs_end hstop]
      simp [laidSs]
    · have hd2 : t.bytes.drop t.pos = laidS s ++ (laidSs rest).take (m - (laidS s).length) := by
        rw [hd, laidSs_cons, List.take_append, List.take_of_length_le (by omega)]
      have hsl : s.length ≤ (laidS s).length := by unfold laidS; rw [List.length_append]; omega
      have hst := str_at (t := t) (most := most) hf (hs s (by simp)) (by omega) hd2
      have hml2 : m - (laidS s).length ≤ (laidSs rest).length := by
        rw [laidSs_cons, List.length_append] at hml; omega
      obtain ⟨j, hj, he, hle, hmx⟩ := jrecs_laid most rest k' { t with pos := t.pos + (laidS s).length } (out ++ [s]) (m - (laidS s).length) (fun x hx => hs x (List.mem_cons_of_mem _ hx)) hf hm hml2
        (by show t.bytes.drop (t.pos + (laidS s).length) = _; rw [← List.drop_drop, hd2, List.drop_left' rfl]) (by omega)
      refine ⟨j + 1, by simp; omega, ?_, ?_, fun h => ?_⟩
      · rw [jrecs_more (by omega) (by show (t.str most).2.fault = 0; rw [hst]; exact hf)]
        show jrecs _ _ (t.str most).2 (out ++ [(t.str most).1]) (t.str most).2.pos = _
        rw [hst]
        simp only at he ⊢
        rw [he, List.take_succ_cons, laidSs_cons, List.length_append, List.append_assoc, Nat.add_assoc]
        rfl
      · rw [List.take_succ_cons, laidSs_cons, List.length_append]; omega
      · have := hmx (by simp at h; omega)
        rw [List.take_succ_cons, laidSs_cons, List.length_append]
        omega
/-- The records of a beginning of laid records. -/
theorem recs_take (all : List (List UInt8)) (n : Nat) (hs : ∀ s ∈ all, s.length < 18446744073709551616) (hn : n ≤ (laidSs all).length) :
    ∃ k, k ≤ all.length ∧ jopenRecs ((laidSs all).take n) = (all.take k, (laidSs (all.take k)).length) ∧ (laidSs (all.take k)).length ≤ n ∧ (k < all.length → n < (laidSs (all.take (k + 1))).length) := by
  have hl : ((laidSs all).take n).length = n := by rw [List.length_take]; omega
  obtain ⟨j, h1, h2, h3, h4⟩ := jrecs_laid (n : Int) all (n + 1) ⟨(laidSs all).take n, 0, 0, 0⟩ [] n hs rfl (by show ((((laidSs all).take n).length : Nat) : Int) ≤ _; rw [hl]; exact Int.le_refl _) hn (by simp) (by omega)
  refine ⟨j, h1, ?_, h3, h4⟩
  unfold jopenRecs
  rw [hl]
  simp only at h2
  rw [h2]
  simp
end
section
open Go.RowKit
set_option linter.unusedVariables false

/-- The first so many blocks are full, and count. -/
def Ch (c : Nat → Option (Nat × List UInt8)) (r : Nat) : Nat → Nat → List UInt8 → Prop
  | 0, l, S => l = 0 ∧ S = []
  | n + 1, l, S => ∃ l0 S0 ld, Ch c r n l0 S0 ∧ c n = some (l, ld) ∧ l0 ≤ l ∧ ld.length = r ∧ S = S0 ++ ld
theorem ch_len {c : Nat → Option (Nat × List UInt8)} {r : Nat} : ∀ {n l : Nat} {S : List UInt8}, Ch c r n l S → S.length = n * r
  | 0, l, S, h => by rw [h.2]; simp
  | n + 1, l, S, ⟨l0, S0, ld, h0, h1, h2, h3, h4⟩ => by rw [h4, List.length_append, ch_len h0, h3, Nat.succ_mul]
theorem ch_same {c c' : Nat → Option (Nat × List UInt8)} {r : Nat} : ∀ {n l : Nat} {S : List UInt8}, (∀ i, i < n → c' i = c i) → Ch c r n l S → Ch c' r n l S
  | 0, l, S, _, h => h
  | n + 1, l, S, he, ⟨l0, S0, ld, h0, h1, h2, h3, h4⟩ => ⟨l0, S0, ld, ch_same (fun i hi => he i (by omega)) h0, by rw [he n (by omega)]; exact h1, h2, h3, h4⟩
theorem ch_life {c : Nat → Option (Nat × List UInt8)} {r m : Nat} {n l : Nat} {S : List UInt8} (hm : ∀ i x, i < n → c i = some x → x.1 ≤ m) (h : Ch c r n l S) : l ≤ m := by
  cases n with
  | zero => rw [h.1]; exact Nat.zero_le _
  | succ n =>
    obtain ⟨l0, S0, ld, h0, h1, h2, h3, h4⟩ := h
    exact hm n (l, ld) (by omega) h1
theorem ch_take {c : Nat → Option (Nat × List UInt8)} {r m : Nat} : ∀ {n l : Nat} {S : List UInt8}, Ch c r n l S → m ≤ n → ∃ l', Ch c r m l' (S.take (m * r))
  | 0, l, S, h, hm => by
    obtain rfl : m = 0 := by omega
    exact ⟨0, rfl, by simp⟩
  | n + 1, l, S, h, hm => by
    by_cases he : m = n + 1
    · subst he
      exact ⟨l, by rw [List.take_of_length_le (by rw [ch_len h]; exact Nat.le_refl _)]; exact h⟩
    · obtain ⟨l0, S0, ld, h0, h1, h2, h3, h4⟩ := h
      obtain ⟨l', h5⟩ := ch_take h0 (show m ≤ n by omega)
      refine ⟨l', ?_⟩
      rw [h4, List.take_append_of_le_length (by rw [ch_len h0]; exact Nat.mul_le_mul_right _ (by omega))]
      exact h5
theorem cstep_none (rm life : Nat) : cstep rm life none = none := rfl
theorem cstep_old {rm life lf : Nat} {ld : List UInt8} (h : lf < life) : cstep rm life (some (lf, ld)) = none := by unfold cstep; rw [Option.bind_some, if_pos h]
theorem cstep_some {rm life lf : Nat} {ld : List UInt8} (h : ¬ lf < life) : cstep rm life (some (lf, ld)) = some (decide (ld.length < rm), lf, ld) := by unfold cstep; rw [Option.bind_some, if_neg h]
section
variable {D D' : DS} {fr ep : Nat}
theorem ch_read : ∀ {n l : Nat} {S : List UInt8}, Ch (jcell D fr ep) (D.size - 15) n l S → ∀ k, jread D fr ep (n + k) 0 0 [] = jread D fr ep k n l S
  | 0, l, S, h, k => by obtain ⟨rfl, rfl⟩ := h; rw [Nat.zero_add]
  | n + 1, l, S, ⟨l0, S0, ld, h0, h1, h2, h3, h4⟩, k => by
    have h5 := ch_read h0 (k + 1)
    have h6 : jst D fr ep n l0 = some (false, l, ld) := by
      rw [jst_cell, h1, cstep_some (by omega)]
      congr 2
      rw [decide_eq_false_iff_not]; omega
    rw [show n + 1 + k = n + (k + 1) by omega, h5, jread_more h6, h4]
theorem ch_stop {n l : Nat} {S : List UInt8} (h : Ch (jcell D fr ep) (D.size - 15) n l S) {len : Nat} (hl : n ≤ len) (hs : ∀ x, n < len → jcell D fr ep n = some x → x.1 < l) : jread D fr ep len 0 0 [] = (S, l) := by
  have h1 := ch_read h (len - n)
  rw [show n + (len - n) = len by omega] at h1
  rw [h1]
  cases hk : len - n with
  | zero => exact jread_zero
  | succ k =>
    apply jread_none
    rw [jst_cell]
    cases hc : jcell D fr ep n with
    | none => rfl
    | some x => exact cstep_old (hs x (by omega) hc)
theorem ch_last {n l lf : Nat} {S ld : List UInt8} (h : Ch (jcell D fr ep) (D.size - 15) n l S) {len : Nat} (hl : n < len) (hc : jcell D fr ep n = some (lf, ld)) (h1 : l ≤ lf) (h2 : ld.length < D.size - 15) : jread D fr ep len 0 0 [] = (S ++ ld, lf) := by
  have h3 := ch_read h (len - n)
  rw [show n + (len - n) = len by omega] at h3
  rw [h3]
  obtain ⟨k, hk⟩ : ∃ k, len - n = k + 1 := ⟨len - n - 1, by omega⟩
  rw [hk]
  apply jread_last
  rw [jst_cell, hc, cstep_some (by omega)]
  congr 2
  rw [decide_eq_true_iff]; exact h2
end
/-- A journal and its disk: the records; so many are surely found again. -/
structure JSt (D : DS) (J : JV) (all : List (List UInt8)) (c : Nat) : Prop where
  strm : J.stream = laidSs all
  recs : J.records = all.length
  chain : ∃ l, Ch (jcell D J.from_ J.epoch) (D.size - 15) (J.safe / (D.size - 15)) l (J.stream.take (J.safe / (D.size - 15) * (D.size - 15))) ∧ l ≤ J.life
  stale : ∀ i x, J.safe / (D.size - 15) < i → i < J.len → jcell D J.from_ J.epoch i = some x → x.1 < J.life
  rd : ∃ RS lf k, jread D J.from_ J.epoch J.len 0 0 [] = (RS, lf) ∧ lf ≤ J.life ∧ (∀ i x, i < J.len → jcell D J.from_ J.epoch i = some x → x.1 ≤ lf) ∧ jopenRecs RS = (all.take k, (laidSs (all.take k)).length) ∧ RS.take (laidSs (all.take k)).length = laidSs (all.take k) ∧ c ≤ k ∧ k ≤ all.length ∧ (laidSs (all.take k)).length ≤ J.safe ∧ (k < all.length → J.safe < (laidSs (all.take (k + 1))).length)
  small : ∀ s ∈ all, s.length < 18446744073709551616
section
variable {D D' : DS} {J : JV} {all : List (List UInt8)} {c : Nat}
theorem JSt.less (h : JSt D J all c) {c' : Nat} (hc : c' ≤ c) : JSt D J all c' := by
  obtain ⟨RS, lf, k, a1, a2, a3, a4, a5, a6, a7⟩ := h.rd
  exact ⟨h.strm, h.recs, h.chain, h.stale, ⟨RS, lf, k, a1, a2, a3, a4, a5, Nat.le_trans hc a6, a7⟩, h.small⟩
/-- A record more, in memory alone. -/
theorem JSt.add (h : JSt D J all c) (hj : JOk J D) {p : List UInt8} (hp : p.length < 18446744073709551616) : JSt D { J with stream := J.stream ++ laidS p, records := J.records + 1 } (all ++ [p]) c := by
  obtain ⟨RS, lf, k, a1, a2, a3, a4, a5, a6, a7, a8, a9⟩ := h.rd
  have hsf := hj.safe
  have ht : ∀ j, j ≤ all.length → (all ++ [p]).take j = all.take j := fun j hj => List.take_append_of_le_length hj
  have hq : J.safe / (D.size - 15) * (D.size - 15) ≤ J.stream.length := Nat.le_trans (Nat.div_mul_le_self _ _) hsf
  refine ⟨by show J.stream ++ laidS p = _; rw [h.strm, laidSs_snoc], by show J.records + 1 = _; rw [h.recs, List.length_append]; rfl, ?_, h.stale, ⟨RS, lf, k, a1, a2, a3, by rw [ht k a7]; exact a4, by rw [ht k a7]; exact a5, a6, by rw [List.length_append]; omega, by rw [ht k a7]; exact a8, fun _ => ?_⟩, fun s hs => ?_⟩
  · show ∃ l, Ch _ _ _ l ((J.stream ++ laidS p).take _) ∧ _
    rw [List.take_append_of_le_length hq]
    exact h.chain
  · show J.safe < _
    by_cases hk : k < all.length
    · rw [ht (k + 1) (by omega)]; exact a9 hk
    · rw [List.take_of_length_le (by rw [List.length_append]; simp; omega), laidSs_snoc, List.length_append, ← h.strm]
      have := laidS_pos p
      omega
  · rcases List.mem_append.1 hs with h1 | h1
    · exact h.small s h1
    · rw [List.mem_singleton.1 h1]; exact hp
/-- Nothing on the disk has turned. -/
theorem JSt.disk (h : JSt D J all c) (hs : D'.size = D.size) (hb : ∀ n, D'.blockB n = D.blockB n) : JSt D' J all c := by
  have hc : jcell D' = jcell D := by funext fr ep i; exact jcell_same hb fr ep i
  have hr : ∀ k, jread D' J.from_ J.epoch k 0 0 [] = jread D J.from_ J.epoch k 0 0 [] := fun k => by
    have : jst D' J.from_ J.epoch = jst D J.from_ J.epoch := by funext i l; rw [jst_cell, jst_cell, hs, hc]
    unfold jread; rw [this]
  obtain ⟨RS, lf, k, a1, a2, a3, a4⟩ := h.rd
  refine ⟨h.strm, h.recs, by rw [hs, hc]; exact h.chain, by rw [hs, hc]; exact h.stale, ⟨RS, lf, k, by rw [hr]; exact a1, a2, by rw [hc]; exact a3, a4⟩, h.small⟩
theorem JSt.broke (h : JSt D J all c) (b : Bool) : JSt D { J with broken := b } all c := ⟨h.strm, h.recs, h.chain, h.stale, h.rd, h.small⟩
/-- All is on the disk. -/
theorem JSt.full (h : JSt D J all c) (hs : J.safe = J.stream.length) : JSt D J all all.length := by
  obtain ⟨RS, lf, k, a1, a2, a3, a4, a5, a6, a7, a8, a9⟩ := h.rd
  have hk : k = all.length := by
    by_cases hk : k < all.length
    · have h1 := a9 hk
      have h2 := laidSs_mono all (show k + 1 ≤ all.length from hk)
      rw [List.take_of_length_le (Nat.le_refl _), ← h.strm] at h2
      omega
    · omega
  exact ⟨h.strm, h.recs, h.chain, h.stale, ⟨RS, lf, k, a1, a2, a3, a4, a5, by omega, a7, a8, a9⟩, h.small⟩
/-- A block is written. -/
theorem JSt.wrote (h : JSt D J all c) (hj : JOk J D) (ok : D.Ok) (hoff : D.off = false) (hleft : D.left ≠ 0) (hlt : J.blk D < J.len) (hgt : J.safe < J.to_ D) (hlg : D.log.length + 1 ≤ 1000000) : JSt (J.wr D).2.2 { J with safe := J.to_ D } all c := by
  obtain ⟨w1, w2, w3, w4, w5, w6, w7, w8, wc⟩ := wr_yes ok hj hoff hleft hlt hlg
  obtain ⟨RS, lf, k, a1, a2, a3, a4, a5, a6, a7, a8, a9⟩ := h.rd
  obtain ⟨l, hch, hl⟩ := h.chain
  have hs1 := ok.s1
  have harea := hj.area
  have hl2 := hj.l2
  generalize hD' : (J.wr D).2.2 = D' at *
  have hcell : ∀ i, i < J.len → jcell D' J.from_ J.epoch i = if i = J.blk D then some (J.life, J.load D) else jcell D J.from_ J.epoch i := fun i hi => by
    have := wc J.epoch i (by omega) (by omega)
    rw [if_pos rfl] at this
    exact this
  obtain ⟨r, hr⟩ : ∃ r, D.size - 15 = r := ⟨_, rfl⟩
  obtain ⟨n, hn⟩ : ∃ n, J.safe / r = n := ⟨_, rfl⟩
  have hr0 : 0 < r := by omega
  have hblk : J.blk D = n := by unfold JV.blk; rw [hr, hn]
  have hto : J.to_ D = min J.stream.length ((n + 1) * r) := by unfold JV.to_; rw [hblk, hr]
  have hld : J.load D = (J.stream.drop (n * r)).take (J.to_ D - n * r) := by unfold JV.load; rw [hblk, hr]
  have hn1 : n * r ≤ J.safe := by rw [← hn]; exact Nat.div_mul_le_self _ _
  have hsm : (n + 1) * r = n * r + r := Nat.succ_mul _ _
  rw [hblk] at hcell hlt
  rw [hr, hn] at hch
  obtain ⟨to, hto'⟩ : ∃ to, J.to_ D = to := ⟨_, rfl⟩
  rw [hto'] at hto hgt hld
  have hldl : (J.load D).length = to - n * r := by
    rw [hld, List.length_take, List.length_drop]; omega
  have hcat : J.stream.take (n * r) ++ J.load D = J.stream.take to := by
    rw [hld]
    have h9 := List.take_append_drop (n * r) (J.stream.take to)
    rw [List.take_take, Nat.min_eq_left (by omega)] at h9
    rw [← h9]
    congr 1
    rw [List.drop_take]
  have hch' : Ch (jcell D' J.from_ J.epoch) r n l (J.stream.take (n * r)) := ch_same (fun i hi => by rw [hcell i (by omega), if_neg (by omega)]) hch
  have hcn : jcell D' J.from_ J.epoch n = some (J.life, J.load D) := by rw [hcell n hlt, if_pos rfl]
  have hsz : D'.size - 15 = r := by rw [w5, hr]
  have hst' : ∀ i x, n < i → i < J.len → jcell D' J.from_ J.epoch i = some x → x.1 < J.life := fun i x h1 h2 h3 => by
    rw [hcell i h2, if_neg (by omega)] at h3
    exact h.stale i x (by rw [hr, hn]; exact h1) h2 h3
  have hlives : ∀ i x, i < J.len → jcell D' J.from_ J.epoch i = some x → x.1 ≤ J.life := fun i x h1 h2 => by
    rw [hcell i h1] at h2
    by_cases h3 : i = n
    · rw [if_pos h3] at h2
      injection h2 with h2
      rw [← h2]; exact Nat.le_refl _
    · rw [if_neg h3] at h2
      exact Nat.le_trans (a3 i x h1 h2) a2
  have hmain : (∃ l', Ch (jcell D' J.from_ J.epoch) r (to / r) l' (J.stream.take (to / r * r)) ∧ l' ≤ J.life) ∧ n ≤ to / r ∧ jread D' J.from_ J.epoch J.len 0 0 [] = (J.stream.take to, J.life) := by
    by_cases hf : to = (n + 1) * r
    · have hq : to / r = n + 1 := by rw [hf]; exact Nat.mul_div_cancel _ hr0
      have hch2 : Ch (jcell D' J.from_ J.epoch) r (n + 1) J.life (J.stream.take to) := ⟨l, _, _, hch', hcn, hl, by rw [hldl]; omega, hcat.symm⟩
      refine ⟨⟨J.life, by rw [hq, ← hf]; exact hch2, Nat.le_refl _⟩, by omega, ?_⟩
      rw [← hsz] at hch2
      exact ch_stop hch2 (by omega) (fun x h1 h2 => hst' (n + 1) x (by omega) h1 h2)
    · have hq : to / r = n := by
        refine Nat.div_eq_of_lt_le (by omega) ?_
        omega
      refine ⟨⟨l, by rw [hq]; exact hch', hl⟩, by omega, ?_⟩
      rw [← hsz] at hch'
      rw [← hcat]
      have h9 := ch_last hch' hlt hcn hl (by rw [hldl, hsz]; omega)
      rw [hsz] at h9
      exact h9
  obtain ⟨hm1, hm2, hm3⟩ := hmain
  have htol : to ≤ (laidSs all).length := by rw [← h.strm]; omega
  obtain ⟨k', b1, b2, b3, b4⟩ := recs_take all to h.small htol
  have hck : c ≤ k' := by
    by_cases h9 : c ≤ k'
    · exact h9
    · have h1 := b4 (by omega)
      have h2 := laidSs_mono all (show k' + 1 ≤ k by omega)
      omega
  rw [hto']
  refine ⟨h.strm, h.recs, ?_, ?_, ⟨J.stream.take to, J.life, k', hm3, Nat.le_refl _, hlives, by rw [h.strm]; exact b2, ?_, hck, b1, b3, b4⟩, h.small⟩
  · rw [hsz]; exact hm1
  · intro i x h1 h2 h3
    rw [hsz] at h1
    exact hst' i x (by show n < i; have : to / r < i := h1; omega) h2 h3
  · rw [List.take_take, Nat.min_eq_left b3, h.strm]
    have e : laidSs all = laidSs (all.take k') ++ laidSs (all.drop k') := by rw [← laidSs_app, List.take_append_drop]
    rw [e, List.take_left' rfl]
/-- Opened again. -/
theorem JSt.opened (h : JSt D J all c) (hj : JOk J D) : ∃ RS lf k, jread D J.from_ J.epoch J.len 0 0 [] = (RS, lf) ∧ lf ≤ J.life ∧ jopenRecs RS = (all.take k, (laidSs (all.take k)).length) ∧ c ≤ k ∧ k ≤ all.length ∧ RS.take (laidSs (all.take k)).length = laidSs (all.take k) ∧
    JSt D ⟨J.from_, J.len, J.epoch, lf + 1, RS.take (laidSs (all.take k)).length, (laidSs (all.take k)).length, (all.take k).length, false⟩ (all.take k) k := by
  obtain ⟨RS, lf, k, a1, a2, a3, a4, a5, a6, a7, a8, a9⟩ := h.rd
  obtain ⟨l, hch, hl⟩ := h.chain
  refine ⟨RS, lf, k, a1, a2, a4, a6, a7, a5, a5, rfl, ?_, fun i x h1 h2 h3 => ?_, ⟨RS, lf, k, a1, by show lf ≤ lf + 1; omega, a3, by rw [List.take_take, Nat.min_self]; exact a4, by rw [List.take_take, Nat.min_self]; exact a5, Nat.le_refl _, by rw [List.length_take]; omega, by rw [List.take_take, Nat.min_self]; exact Nat.le_refl _, fun h9 => by rw [List.length_take] at h9; omega⟩, fun s hs => h.small s (List.mem_of_mem_take hs)⟩
  · have hq : (laidSs (all.take k)).length / (D.size - 15) ≤ J.safe / (D.size - 15) := Nat.div_le_div_right a8
    obtain ⟨l', h5⟩ := ch_take hch hq
    have hle : (laidSs (all.take k)).length / (D.size - 15) * (D.size - 15) ≤ (laidSs (all.take k)).length := Nat.div_mul_le_self _ _
    have hle2 : (laidSs (all.take k)).length / (D.size - 15) * (D.size - 15) ≤ J.safe / (D.size - 15) * (D.size - 15) := Nat.mul_le_mul_right _ hq
    have e : laidSs all = laidSs (all.take k) ++ laidSs (all.drop k) := by rw [← laidSs_app, List.take_append_drop]
    rw [List.take_take, Nat.min_eq_left hle2, h.strm, e, List.take_append_of_le_length hle] at h5
    refine ⟨l', by show Ch _ _ _ l' ((RS.take _).take _); rw [a5]; exact h5, ?_⟩
    refine Nat.le_succ_of_le (ch_life (fun i x h1 h2 => a3 i x ?_ h2) h5)
    have h6 : J.safe / (D.size - 15) ≤ J.len := Nat.div_le_of_le_mul (by rw [Nat.mul_comm]; exact Nat.le_trans hj.safe hj.room)
    exact Nat.lt_of_lt_of_le h1 (Nat.le_trans hq h6)
  · have h4 := a3 i x h2 h3
    show x.1 < lf + 1
    omega
end
end
section
open Go.RowKit
set_option linter.unusedVariables false

/-- What an act keeps. -/
structure JKeep (J : JV) (D : DS) (J' : JV) (D' : DS) (n : Nat) : Prop where
  from_ : J'.from_ = J.from_
  len : J'.len = J.len
  epoch : J'.epoch = J.epoch
  life : J'.life = J.life
  size : D'.size = D.size
  nb : D'.nb = D.nb
  log : D'.log.length ≤ D.log.length + n
  cells : ∀ ep i, ep ≠ J.epoch → i < J.len → jcell D J.from_ ep i = none → jcell D' J.from_ ep i = none
  left : D.left = -1 → D'.left = -1
theorem JKeep.refl (J : JV) (D : DS) : JKeep J D J D 0 := ⟨rfl, rfl, rfl, rfl, rfl, rfl, Nat.le_refl _, fun _ _ _ _ h => h, fun h => h⟩
section
variable {D D' : DS} {J : JV} {all : List (List UInt8)} {c : Nat}
theorem JKeep.trans {J2 J3 : JV} {D2 D3 : DS} {n m : Nat} (a : JKeep J D J2 D2 n) (b : JKeep J2 D2 J3 D3 m) : JKeep J D J3 D3 (n + m) := by
  refine ⟨b.from_.trans a.from_, b.len.trans a.len, b.epoch.trans a.epoch, b.life.trans a.life, b.size.trans a.size, b.nb.trans a.nb, by have := a.log; have := b.log; omega, fun ep i h1 h2 h3 => ?_, fun h => b.left (a.left h)⟩
  have h4 := b.cells ep i (by rw [a.epoch]; exact h1) (by rw [a.len]; exact h2)
  rw [a.from_] at h4
  exact h4 (a.cells ep i h1 h2 h3)
theorem to_le : J.to_ D ≤ J.stream.length := by unfold JV.to_; omega
theorem jok_wrote (hj : JOk J D) (h1 : D'.size = D.size) (h2 : D'.nb = D.nb) : JOk { J with safe := J.to_ D } D' :=
  ⟨by show _ ≤ D'.nb; rw [h2]; exact hj.area, hj.l1, hj.l2, hj.ep, hj.lf1, hj.lf2, to_le, by show _ ≤ _ * (D'.size - 15); rw [h1]; exact hj.room, hj.recs⟩
/-- No block that is full is to be written. -/
def JSet (J : JV) (D : DS) : Prop := J.safe / (D.size - 15) = J.stream.length / (D.size - 15) ∨ J.broken = true
/-- One block more, or the power was off. -/
theorem wr_law (h : JSt D J all c) (hj : JOk J D) (ok : D.Ok) (hlt : J.blk D < J.len) (hgt : J.safe < J.to_ D) (hlg : D.log.length + 1 ≤ 1000000) :
    JSt (J.wr D).2.2 (J.wr D).2.1 all c ∧ JKeep J D (J.wr D).2.1 (J.wr D).2.2 1 ∧ (J.wr D).2.1.stream = J.stream ∧ (J.wr D).2.1.records = J.records ∧
    ((J.wr D).1 = 0 → (J.wr D).2.1 = { J with safe := J.to_ D } ∧ (J.wr D).2.2.Ok ∧ JOk (J.wr D).2.1 (J.wr D).2.2) ∧ (D.off = false → D.left = -1 → (J.wr D).1 = 0 ∧ (J.wr D).2.2.off = false) ∧ ((J.wr D).1 ≠ 0 → (J.wr D).2.1.broken = true) ∧ ((J.wr D).1 ≠ 0 → (J.wr D).2.1.safe = J.safe) := by
  by_cases hno : D.off = true ∨ D.left = 0
  · obtain ⟨h1, h2, h3⟩ := wr_no ok hj hno hlt
    refine ⟨?_, ?_, by rw [h2], by rw [h2], fun h9 => absurd h9 h1, fun h8 h9 => ?_, fun _ => by rw [h2], fun _ => by rw [h2]⟩
    · rw [h2, h3]
      exact (h.disk (D' := { D with off := true }) rfl (fun _ => rfl)).broke true
    · rw [h2, h3]
      exact ⟨rfl, rfl, rfl, rfl, rfl, rfl, Nat.le_succ _, fun ep i _ _ h9 => by rw [← h9]; exact jcell_same (fun _ => rfl) _ _ _, fun h9 => h9⟩
    · rcases hno with h7 | h7
      · rw [h8] at h7; cases h7
      · omega
  · have hoff : D.off = false := by cases hq : D.off with
      | false => rfl
      | true => exact absurd (.inl hq) hno
    have hleft : D.left ≠ 0 := fun e => hno (.inr e)
    obtain ⟨w1, w2, w3, w4, w5, w6, w7, w8, wc⟩ := wr_yes ok hj hoff hleft hlt hlg
    have ha := hj.area
    have hl2 := hj.l2
    refine ⟨by rw [w2]; exact h.wrote hj ok hoff hleft hlt hgt hlg, ?_, by rw [w2], by rw [w2], fun _ => ⟨w2, w8, by rw [w2]; exact jok_wrote hj w5 w6⟩, fun _ _ => ⟨w1, w3⟩, fun h9 => absurd w1 h9, fun h9 => absurd w1 h9⟩
    rw [w2]
    refine ⟨rfl, rfl, rfl, rfl, w5, w6, by omega, fun ep i h1 h2 h3 => ?_, fun h9 => by rw [w4]; omega⟩
    rw [wc ep i (by omega) (by omega)]
    by_cases h4 : i = J.blk D
    · rw [if_pos h4, if_neg h1]
    · rw [if_neg h4]; exact h3
/-- The blocks that are full are written. -/
theorem flushes_law : ∀ (k : Nat) (J : JV) (D : DS), JSt D J all c → JOk J D → D.Ok → J.stream.length / (D.size - 15) - J.safe / (D.size - 15) ≤ k → ∀ n, J.stream.length / (D.size - 15) - J.safe / (D.size - 15) ≤ n → D.log.length + n ≤ 1000000 →
    JSt (JV.flushes k J D).2.2 (JV.flushes k J D).2.1 all c ∧ JKeep J D (JV.flushes k J D).2.1 (JV.flushes k J D).2.2 n ∧ (JV.flushes k J D).2.1.stream = J.stream ∧ (JV.flushes k J D).2.1.records = J.records ∧ (D.off = false → D.left = -1 → (JV.flushes k J D).1 = 0 ∧ (JV.flushes k J D).2.2.off = false ∧ (JV.flushes k J D).2.1.broken = J.broken) ∧ JSet (JV.flushes k J D).2.1 (JV.flushes k J D).2.2 ∧ (JV.flushes k J D).2.1.safe ≤ max J.safe (J.stream.length / (D.size - 15) * (D.size - 15))
  | 0, J, D, h, hj, ok, hk, n, hn, hlg => by
    unfold JV.flushes
    exact ⟨h, ⟨rfl, rfl, rfl, rfl, rfl, rfl, Nat.le_add_right _ _, fun _ _ _ _ h => h, fun h => h⟩, rfl, rfl, fun h1 _ => ⟨rfl, h1, rfl⟩, .inl (Nat.le_antisymm (Nat.div_le_div_right hj.safe) (by show J.stream.length / (D.size - 15) ≤ J.safe / (D.size - 15); omega)), Nat.le_max_left _ _⟩
  | k + 1, J, D, h, hj, ok, hk, n, hn, hlg => by
    unfold JV.flushes
    by_cases hc : J.safe / (D.size - 15) < J.stream.length / (D.size - 15)
    · rw [if_pos hc]
      have hs1 := ok.s1
      obtain ⟨r, hr⟩ : ∃ r, D.size - 15 = r := ⟨_, rfl⟩
      have hr0 : 0 < r := by omega
      have hroom := hj.room
      rw [hr] at hc hk hn hroom
      have hq : J.stream.length / r ≤ J.len := Nat.div_le_of_le_mul (by rw [Nat.mul_comm]; exact hroom)
      have hblk : J.blk D = J.safe / r := by unfold JV.blk; rw [hr]
      have h1 : (J.safe / r + 1) * r ≤ J.stream.length := Nat.le_trans (Nat.mul_le_mul_right _ hc) (Nat.div_mul_le_self _ _)
      have hto : J.to_ D = (J.safe / r + 1) * r := by unfold JV.to_; rw [hblk, hr]; omega
      have h2 : J.safe < (J.safe / r + 1) * r := by
        have h8 := Nat.div_add_mod J.safe r
        have h9 := Nat.mod_lt J.safe hr0
        rw [Nat.succ_mul, Nat.mul_comm]; omega
      obtain ⟨a1, a2, a3, a4, a5, a6, a7, a8⟩ := wr_law h hj ok (by omega) (by omega) (by omega)
      by_cases he : (J.wr D).1 = 0
      · rw [if_pos he]
        obtain ⟨b1, b2, b3⟩ := a5 he
        have hsz := a2.size
        have hd : (J.wr D).2.1.stream.length / ((J.wr D).2.2.size - 15) - (J.wr D).2.1.safe / ((J.wr D).2.2.size - 15) = J.stream.length / r - (J.safe / r + 1) := by
          rw [a3, hsz, hr, b1]
          show _ - J.to_ D / r = _
          rw [hto, Nat.mul_div_cancel _ hr0]
        have hl1 := a2.log
        obtain ⟨c1, c2, c3, c4, c5, c6, c7⟩ := flushes_law k (J.wr D).2.1 (J.wr D).2.2 a1 b3 b2 (by rw [hd]; omega) (n - 1) (by rw [hd]; omega) (by omega)
        refine ⟨c1, ?_, c3.trans a3, c4.trans a4, fun h7 h8 => ?_, c6, ?_⟩
        · have := a2.trans c2
          rw [show 1 + (n - 1) = n by omega] at this
          exact this
        · obtain ⟨d1, d2, d3⟩ := c5 (a6 h7 h8).2 (a2.left h8)
          exact ⟨d1, d2, by rw [d3, b1]⟩
        · have h5 : (J.wr D).2.1.safe = (J.safe / r + 1) * r := by rw [b1]; exact hto
          rw [h5, a3, hsz, hr] at c7
          rw [hr]
          have h6 : (J.safe / r + 1) * r ≤ J.stream.length / r * r := Nat.mul_le_mul_right _ hc
          omega
      · rw [if_neg he]
        have hl1 := a2.log
        exact ⟨a1, ⟨a2.from_, a2.len, a2.epoch, a2.life, a2.size, a2.nb, by omega, a2.cells, a2.left⟩, a3, a4, fun h7 h8 => absurd (a6 h7 h8).1 he, .inr (a7 he), by rw [a8 he]; exact Nat.le_max_left _ _⟩
    · rw [if_neg hc]
      exact ⟨h, ⟨rfl, rfl, rfl, rfl, rfl, rfl, Nat.le_add_right _ _, fun _ _ _ _ h => h, fun h => h⟩, rfl, rfl, fun h1 _ => ⟨rfl, h1, rfl⟩, .inl (Nat.le_antisymm (Nat.div_le_div_right hj.safe) (by show J.stream.length / (D.size - 15) ≤ J.safe / (D.size - 15); omega)), Nat.le_max_left _ _⟩
/-- Append. -/
theorem app_law (h : JSt D J all c) (hj : JOk J D) (ok : D.Ok) {p : List UInt8} (hp : p.length < 18446744073709551616) (hlg : D.log.length + J.len ≤ 1000000) :
    ((J.app D p).1 ≠ 0 ∧ (J.app D p).2 = (J, D) ∧ (J.broken = true ∨ J.left D < (laidS p).length)) ∨
    (J.broken = false ∧ (laidS p).length ≤ J.left D ∧ JSt (J.app D p).2.2 (J.app D p).2.1 (all ++ [p]) c ∧ JKeep J D (J.app D p).2.1 (J.app D p).2.2 J.len ∧ (J.app D p).2.1.stream = J.stream ++ laidS p ∧ (J.app D p).2.1.records = J.records + 1 ∧
      (D.off = false → D.left = -1 → (J.app D p).1 = 0 ∧ (J.app D p).2.2.off = false ∧ (J.app D p).2.1.broken = false) ∧ JSet (J.app D p).2.1 (J.app D p).2.2 ∧ (J.app D p).2.1.safe ≤ max J.safe ((J.stream.length + (laidS p).length) / (D.size - 15) * (D.size - 15))) := by
  unfold JV.app
  by_cases hb : J.broken = true
  · rw [if_pos hb]; exact .inl ⟨by show (61 : Nat) ≠ 0; omega, rfl, .inl hb⟩
  rw [if_neg hb]
  by_cases hl : J.left D < (laidS p).length
  · rw [if_pos hl]; exact .inl ⟨by show (60 : Nat) ≠ 0; omega, rfl, .inr hl⟩
  rw [if_neg hl]
  right
  have hbf : J.broken = false := by cases hq : J.broken with
    | false => rfl
    | true => exact absurd hq hb
  have hs1 := ok.s1
  have hroom := hj.room
  have hle : (J.stream ++ laidS p).length ≤ J.len * (D.size - 15) := by rw [List.length_append]; unfold JV.left at hl; omega
  have hps := laidS_pos p
  have hj2 : JOk { J with stream := J.stream ++ laidS p, records := J.records + 1 } D := ⟨hj.area, hj.l1, hj.l2, hj.ep, hj.lf1, hj.lf2, by show J.safe ≤ (J.stream ++ laidS p).length; rw [List.length_append]; have := hj.safe; omega, hle, by show J.records + 1 ≤ (J.stream ++ laidS p).length; rw [List.length_append]; have := hj.recs; omega⟩
  have hq : (J.stream ++ laidS p).length / (D.size - 15) ≤ J.len := Nat.div_le_of_le_mul (by rw [Nat.mul_comm]; exact hle)
  have hq2 : (J.stream ++ laidS p).length / (D.size - 15) ≤ (J.stream ++ laidS p).length := Nat.div_le_self _ _
  rw [List.length_append] at hq2
  obtain ⟨c1, c2, c3, c4, c5, c6, c7⟩ := flushes_law (J.stream.length + (laidS p).length + 1) { J with stream := J.stream ++ laidS p, records := J.records + 1 } D (h.add hj hp) hj2 ok
    (Nat.le_trans (Nat.sub_le _ _) (Nat.le_trans (Nat.div_le_self _ _) (by show (J.stream ++ laidS p).length ≤ _; rw [List.length_append]; omega))) J.len (Nat.le_trans (Nat.sub_le _ _) hq) hlg
  refine ⟨hbf, by omega, c1, ⟨c2.from_, c2.len, c2.epoch, c2.life, c2.size, c2.nb, c2.log, c2.cells, c2.left⟩, c3, c4, fun h1 h2 => ⟨(c5 h1 h2).1, (c5 h1 h2).2.1, by rw [(c5 h1 h2).2.2]; exact hbf⟩, c6, ?_⟩
  have e : (J.stream ++ laidS p).length = J.stream.length + (laidS p).length := List.length_append
  refine Nat.le_trans c7 ?_
  show max J.safe ((J.stream ++ laidS p).length / _ * _) ≤ _
  rw [e]; exact Nat.le_refl _
/-- Flush. -/
theorem flush_law (h : JSt D J all c) (hj : JOk J D) (ok : D.Ok) (hlt : JSet J D) (hlg : D.log.length + 1 ≤ 1000000) :
    JSt (J.flush D).2.2 (J.flush D).2.1 all (if (J.flush D).1 = 0 then all.length else c) ∧ JKeep J D (J.flush D).2.1 (J.flush D).2.2 1 ∧ (J.flush D).2.1.stream = J.stream ∧ (J.flush D).2.1.records = J.records ∧
    ((J.flush D).1 = 0 → (J.flush D).2.1.safe = J.stream.length ∧ (J.flush D).2.1.broken = false) ∧ (D.off = false → D.left = -1 → J.broken = false → (J.flush D).1 = 0 ∧ (J.flush D).2.2.off = false) ∧ JSet (J.flush D).2.1 (J.flush D).2.2 := by
  unfold JV.flush
  by_cases hb : J.broken = true
  · rw [if_pos hb]
    exact ⟨h, ⟨rfl, rfl, rfl, rfl, rfl, rfl, Nat.le_add_right _ _, fun _ _ _ _ h => h, fun h => h⟩, rfl, rfl, fun h9 => absurd h9 (by show (61 : Nat) ≠ 0; omega), (fun _ _ h9 => absurd hb (by rw [h9]; simp)), hlt⟩
  rw [if_neg hb]
  have hbf : J.broken = false := by cases hq : J.broken with
    | false => rfl
    | true => exact absurd hq hb
  have hset := hlt
  have hlt : J.safe / (D.size - 15) = J.stream.length / (D.size - 15) := hlt.resolve_right hb
  by_cases he : J.safe = J.stream.length
  · rw [if_pos he]
    exact ⟨h.full he, ⟨rfl, rfl, rfl, rfl, rfl, rfl, Nat.le_add_right _ _, fun _ _ _ _ h => h, fun h => h⟩, rfl, rfl, fun _ => ⟨he, hbf⟩, fun h1 _ _ => ⟨rfl, h1⟩, hset⟩
  rw [if_neg he]
  have hs1 := ok.s1
  have hsf := hj.safe
  obtain ⟨r, hr⟩ : ∃ r, D.size - 15 = r := ⟨_, rfl⟩
  have hr0 : 0 < r := by omega
  have hroom := hj.room
  rw [hr] at hlt hroom
  have hblk : J.blk D = J.safe / r := by unfold JV.blk; rw [hr]
  have h2 : J.stream.length < (J.safe / r + 1) * r := by
    rw [hlt]
    have h8 := Nat.div_add_mod J.stream.length r
    have h9 := Nat.mod_lt J.stream.length hr0
    rw [Nat.succ_mul, Nat.mul_comm]; omega
  have hto : J.to_ D = J.stream.length := by unfold JV.to_; rw [hblk, hr]; omega
  have hbl : J.blk D < J.len := by
    rw [hblk]
    exact Nat.div_lt_of_lt_mul (by rw [Nat.mul_comm]; omega)
  obtain ⟨a1, a2, a3, a4, a5, a6, a7, a8⟩ := wr_law h hj ok hbl (by omega) hlg
  refine ⟨?_, a2, a3, a4, fun h9 => ?_, fun h7 h8 _ => a6 h7 h8, ?_⟩
  · by_cases h9 : (J.wr D).1 = 0
    · rw [if_pos h9]
      obtain ⟨b1, b2, b3⟩ := a5 h9
      refine a1.full ?_
      rw [a3, b1]
      exact hto
    · rw [if_neg h9]; exact a1
  · obtain ⟨b1, b2, b3⟩ := a5 h9
    rw [b1]
    exact ⟨hto, hbf⟩
  · by_cases h9 : (J.wr D).1 = 0
    · obtain ⟨b1, b2, b3⟩ := a5 h9
      left
      rw [a3, b1]
      show J.to_ D / _ = _
      rw [hto]
    · exact .inr (a7 h9)
/-- An area in which nothing counts. -/
theorem blank_law (D : DS) (fr len ep : Nat) (h : ∀ i, i < len → jcell D fr ep i = none) :
    jread D fr ep len 0 0 [] = ([], 0) ∧ jopenRecs [] = ([], 0) ∧ JSt D ⟨fr, len, ep, 1, [], 0, 0, false⟩ [] 0 := by
  have h1 : jread D fr ep len 0 0 [] = ([], 0) := ch_stop (n := 0) ⟨rfl, rfl⟩ (Nat.zero_le _) (fun x h2 h3 => by rw [h 0 h2] at h3; cases h3)
  have h2 : jopenRecs [] = ([], 0) := by unfold jopenRecs; exact jrecs_end (.inl rfl)
  refine ⟨h1, h2, rfl, rfl, ⟨0, ?_, Nat.zero_le _⟩, (fun i x _ h4 h5 => by rw [h i h4] at h5; cases h5), ⟨[], 0, 0, h1, Nat.zero_le _, (fun i x h4 h5 => by rw [h i h4] at h5; cases h5), h2, rfl, Nat.le_refl _, Nat.le_refl _, Nat.le_refl _, fun h4 => absurd h4 (Nat.lt_irrefl _)⟩, fun s hs => by cases hs⟩
  show Ch _ _ (0 / _) 0 _
  rw [Nat.zero_div]
  exact ⟨rfl, by simp⟩
end
end
section
open Go.RowKit
set_option linter.unusedVariables false

/-- A journal on a disk whose power stays on: its records, so many of which are surely found again. -/
structure JOn (fr len ep life nb : Nat) (D : DS) (J : JV) (all : List (List UInt8)) (c : Nat) : Prop where
  st : JSt D J all c
  set : JSet J D
  off : D.off = false
  left : D.left = -1
  brk : J.broken = false
  from_ : J.from_ = fr
  len_ : J.len = len
  epoch : J.epoch = ep
  life_ : J.life = life
  size : D.size = 64
  nb_ : D.nb = nb
  other : ∀ e i, ep < e → i < len → jcell D fr e i = none
section
variable {fr len ep life nb c : Nat} {D : DS} {J : JV} {all : List (List UInt8)}
theorem JOn.left_ (h : JOn fr len ep life nb D J all c) : J.left D = len * 49 - J.stream.length := by unfold JV.left; rw [h.len_, h.size]
theorem JOn.app (h : JOn fr len ep life nb D J all c) (hj : JOk J D) (ok : D.Ok) {p : List UInt8} (hp : p.length < 18446744073709551616) (hlg : D.log.length + len ≤ 1000000) :
    (J.left D < (laidS p).length ∧ J.app D p = (60, J, D)) ∨
    ((laidS p).length ≤ J.left D ∧ ∃ J' D', J.app D p = (0, J', D') ∧ JOn fr len ep life nb D' J' (all ++ [p]) c ∧ J'.stream = J.stream ++ laidS p ∧ D'.log.length ≤ D.log.length + len ∧ J'.safe ≤ max J.safe ((J.stream.length + (laidS p).length) / 49 * 49)) := by
  by_cases hl : J.left D < (laidS p).length
  · left
    refine ⟨hl, ?_⟩
    unfold JV.app
    rw [if_neg (by rw [h.brk]; simp), if_pos hl]
  · right
    refine ⟨by omega, (J.app D p).2.1, (J.app D p).2.2, ?_⟩
    rcases app_law h.st hj ok hp (by rw [h.len_]; exact hlg) with ⟨h1, h2, h3⟩ | ⟨h1, h2, h3, h4, h5, h6, h7, h8, h9⟩
    · rcases h3 with h3 | h3
      · rw [h.brk] at h3; cases h3
      · exact absurd h3 hl
    · obtain ⟨k1, k2, k3⟩ := h7 h.off h.left
      refine ⟨by rw [← k1], ⟨h3, h8, k2, h4.left h.left, k3, h4.from_.trans h.from_, h4.len.trans h.len_, h4.epoch.trans h.epoch, h4.life.trans h.life_, h4.size.trans h.size, h4.nb.trans h.nb_, fun e i h10 h11 => ?_⟩, h5, by have := h4.log; rw [h.len_] at this; exact this, by rw [h.size] at h9; exact h9⟩
      have h12 := h4.cells e i (by rw [h.epoch]; omega) (by rw [h.len_]; exact h11)
      rw [h.from_] at h12
      exact h12 (h.other e i h10 h11)
theorem JOn.flush (h : JOn fr len ep life nb D J all c) (hj : JOk J D) (ok : D.Ok) (hlg : D.log.length + 1 ≤ 1000000) :
    ∃ J' D', J.flush D = (0, J', D') ∧ JOn fr len ep life nb D' J' all all.length ∧ J'.safe = J'.stream.length ∧ J'.stream = J.stream ∧ D'.log.length ≤ D.log.length + 1 := by
  obtain ⟨h1, h2, h3, h4, h5, h6, h7⟩ := flush_law h.st hj ok h.set hlg
  obtain ⟨k1, k2⟩ := h6 h.off h.left h.brk
  obtain ⟨k3, k4⟩ := h5 k1
  rw [if_pos k1] at h1
  refine ⟨(J.flush D).2.1, (J.flush D).2.2, by rw [← k1], ⟨h1, h7, k2, h2.left h.left, k4, h2.from_.trans h.from_, h2.len.trans h.len_, h2.epoch.trans h.epoch, h2.life.trans h.life_, h2.size.trans h.size, h2.nb.trans h.nb_, fun e i h10 h11 => ?_⟩, by rw [k3, h3], h3, h2.log⟩
  have h12 := h2.cells e i (by rw [h.epoch]; omega) (by rw [h.len_]; exact h11)
  rw [h.from_] at h12
  exact h12 (h.other e i h10 h11)
theorem JOn.opened (h : JOn fr len ep life nb D J all c) (hj : JOk J D) : ∃ RS lf k, jread D fr ep len 0 0 [] = (RS, lf) ∧ lf ≤ life ∧ jopenRecs RS = (all.take k, (laidSs (all.take k)).length) ∧ c ≤ k ∧ k ≤ all.length ∧
    JOn fr len ep (lf + 1) nb D ⟨fr, len, ep, lf + 1, RS.take (laidSs (all.take k)).length, (laidSs (all.take k)).length, (all.take k).length, false⟩ (all.take k) k := by
  obtain ⟨RS, lf, k, h1, h2, h3, h4, h5, h6, h7⟩ := h.st.opened hj
  rw [h.from_, h.len_, h.epoch] at h1 h7
  rw [h.life_] at h2
  exact ⟨RS, lf, k, h1, h2, h3, h4, h5, ⟨h7, .inl (by show _ / _ = (RS.take _).length / _; rw [h6]), h.off, h.left, rfl, rfl, rfl, rfl, rfl, h.size, h.nb_, h.other⟩⟩
/-- Another epoch begun. -/
theorem JOn.begun (h : JOn fr len ep life nb D J all c) : JOn fr len (ep + 1) 1 nb D ⟨fr, len, ep + 1, 1, [], 0, 0, false⟩ [] 0 := by
  obtain ⟨h1, h2, h3⟩ := blank_law D fr len (ep + 1) (fun i hi => h.other (ep + 1) i (by omega) hi)
  exact ⟨h3, .inl (by show 0 / _ = [].length / _; rfl), h.off, h.left, rfl, rfl, rfl, rfl, rfl, h.size, h.nb_, fun e i he hi => h.other e i (by omega) hi⟩
theorem JOn.blank (h : JOn fr len ep life nb D J all c) {e : Nat} (he : ep < e) : jread D fr e len 0 0 [] = ([], 0) ∧ jopenRecs [] = ([], 0) := by
  obtain ⟨h1, h2, h3⟩ := blank_law D fr len e (fun i hi => h.other e i he hi)
  exact ⟨h1, h2⟩
theorem JOn.beginNo (h : JOn fr len ep life nb D J all c) {e : Int} (he : e ≤ ep) : J.begin e = (2, J) := by
  unfold JV.begin
  rw [if_pos (.inl (by rw [h.epoch]; exact he))]
theorem JOn.beginYes (h : JOn fr len ep life nb D J all c) (he : ep + 1 ≤ 16777215) : J.begin ((ep + 1 : Nat) : Int) = (0, ⟨fr, len, ep + 1, 1, [], 0, 0, false⟩) := by
  unfold JV.begin
  rw [if_neg (by rw [h.epoch]; omega), h.from_, h.len_]
  rfl
/-- A disk that is new. -/
theorem jon_fresh (fr len ep nb : Nat) (h : fr + len ≤ nb) (hn : nb ≤ 16384) : jread (DS.fresh nb 64) fr ep len 0 0 [] = ([], 0) ∧ jopenRecs [] = ([], 0) ∧ JOn fr len ep 1 nb (DS.fresh nb 64) ⟨fr, len, ep, 1, [], 0, 0, false⟩ [] 0 := by
  obtain ⟨h1, h2, h3⟩ := blank_law (DS.fresh nb 64) fr len ep (fun i hi => jcell_fresh ep (by omega) hn)
  exact ⟨h1, h2, h3, .inl (by show 0 / _ = [].length / _; rfl), rfl, rfl, rfl, rfl, rfl, rfl, rfl, rfl, rfl, fun e i _ hi => jcell_fresh e (by omega) hn⟩
end
theorem Recs.at_ {base : Nat} {w : World} {A : Option Addr} {n c : Nat} {rs : List (List UInt8)} {vals : List Value} (h : Recs base w (.slice A n c) rs vals) (j : Nat) (hj : j < rs.length) : ∃ g B cB, A = some ⟨g, 0, none⟩ ∧ w.cell? ⟨g, j, none⟩ = some (.slice B (rs[j]).length cB) ∧ Rd w B rs[j] := by
  obtain ⟨B, cB, h1, h2, _⟩ := h.each j hj
  rcases h.own.2 with ⟨hv, hz⟩ | ⟨g, cap, cur, hv, _⟩
  · omega
  · obtain ⟨rfl, rfl, rfl⟩ := Value.slice.inj hv
    refine ⟨g, B, cB, rfl, ?_, h2⟩
    have h3 := h.own.cells (g := g) rfl j _ h1
    rwa [Addr.add_lit, Nat.zero_add] at h3
/-- Opened: the journal, its records. -/
def JOpened (w0 : Bas) (w : World) (pd : Nat) (p : Pl) (D : DS) (J : JV) (rs : List (List UInt8)) (r : Ending) (w' : World) : Prop :=
  Below w.heap.size w w' ∧ ∃ pj v A c vals, r = .returned (.tuple #[.pointer (some ⟨pj, 0, none⟩), .slice A rs.length c, .int .i64 0]) ∧ w.heap.size ≤ pj ∧ JD w0 pj v J pd p D w' ∧ Recs w.heap.size w' (.slice A rs.length c) rs vals
theorem jopened_any {w0 : Bas} {w : World} {pd : Nat} {p : Pl} {D : DS} (h : DiskAt pd p D w) (ok : D.Ok) (hbel : Fr w0.X w0.w w) (hlo : ∀ k, p.F pd k → w0.Q k) (fr ln ep : Nat) (hfl : fr + ln ≤ D.nb) (h1 : 1 ≤ ln) (h2 : ln ≤ 16384) (hep : ep ≤ 16777215) (hoff : D.off = false) {RS : List UInt8} {lf sf : Nat} {rs : List (List UInt8)} (hR : jread D fr ep ln 0 0 [] = (RS, lf)) (hlf : lf + 1 ≤ 1048575) (hrs : jopenRecs RS = (rs, sf)) :
    Calls Try.prog 12 #[.pointer (some ⟨pd, 0, none⟩), .agg #[.int .i64 (fr : Int), .int .i64 (ln : Int)], .int .i64 (ep : Int)] w (JOpened w0 w pd p D ⟨fr, ln, ep, lf + 1, RS.take sf, sf, rs.length, false⟩ rs) := by
  refine (jopen_main h ok hbel hlo fr ln ep hfl h1 h2 hep hoff RS lf hR).mono ?_
  rintro r w' ⟨hb, h9⟩
  rcases h9 with ⟨h9, _⟩ | ⟨_, pj, v, v7, vals, he, hpj, hJ, hRc⟩
  · omega
  rw [hrs] at hJ hRc
  obtain ⟨A, c, rfl⟩ := recs_form hRc.own
  exact ⟨hb, pj, v, A, c, vals, he, hpj, hJ, hRc⟩
end
end Go.Proofs.Ytcnhfbckaacalaa
