/- The walks of Int and Str of layer 1. -/
import Derived.Test.YtefnjplfemgibaaCounted
namespace Go.Proofs.Ytefnjplfemgibaa
open Go.RowKit
set_option linter.unusedVariables false

/-- An int as it is laid. -/
def laidI (z : Int) : List UInt8 := if z < 0 then laidB (-(z + 1)).toNat 128 else laidB z.toNat 0
def laidIs (zs : List Int) : List UInt8 := zs.flatMap laidI
theorem laidIs_snoc (zs : List Int) (z : Int) : laidIs (zs ++ [z]) = laidIs zs ++ laidI z := by simp [laidIs]
theorem laidI_len (z : Int) : (laidI z).length ≤ 9 := by
  unfold laidI
  split
  · have := wid_le (-(z + 1)).toNat; rw [laidB_len]; omega
  · have := wid_le z.toNat; rw [laidB_len]; omega
theorem laidIs_len (zs : List Int) : (laidIs zs).length ≤ 9 * zs.length := by
  induction zs with
  | nil => simp [laidIs]
  | cons z r ih =>
    have h1 := laidI_len z
    show (laidI z ++ laidIs r).length ≤ _
    simp only [List.length_append, List.length_cons]
    omega

theorem not_i64 (x : Int) (h1 : -9223372036854775808 ≤ x) (h2 : x ≤ 9223372036854775807) : bits BinOp.xor IntKind.i64 (-1) x = -x - 1 := by
  show IntKind.i64.wrap ((BitVec.ofInt 64 (-1) ^^^ BitVec.ofInt 64 x).toNat : Int) = _
  have e : BitVec.ofInt 64 (-1) = BitVec.allOnes 64 := by decide
  rw [e, BitVec.allOnes_xor, BitVec.toNat_not, BitVec.toNat_ofInt, IntKind.wrap_i64]
  omega
theorem not_u64 (x : Int) (h1 : -9223372036854775808 ≤ x) (h2 : x < 0) : IntKind.u64.wrap (bits BinOp.xor IntKind.i64 (if IntKind.i64.signed = true then -1 else 9223372036854775807) x) = ((-(x + 1)).toNat : Int) := by
  rw [show (if IntKind.i64.signed = true then (-1 : Int) else 9223372036854775807) = -1 from rfl, not_i64 x h1 (by omega)]
  show (-x - 1) % 18446744073709551616 = _
  omega

/-- A slice with the address A reads as these texts. -/
def RdT (w : World) (A : Option Addr) (l : List (List UInt8)) : Prop :=
  l = [] ∨ ∃ b off, A = some ⟨b, off, none⟩ ∧ ∀ j, (h : j < l.length) → w.cell? ⟨b, off + j, none⟩ = some (.string ⟨l[j].toArray⟩)
theorem RdT.at_ {w : World} {A : Option Addr} {l : List (List UInt8)} (h : RdT w A l) {k : Nat} (hk : k < l.length) :
    ∃ b off, A = some ⟨b, off, none⟩ ∧ w.cell? ⟨b, off + k, none⟩ = some (.string ⟨(l[k]'hk).toArray⟩) := by
  rcases h with rfl | ⟨b, off, h1, h2⟩
  · simp at hk
  · exact ⟨b, off, h1, h2 k hk⟩
theorem RdT.below {w w' : World} {A : Option Addr} {l : List (List UInt8)} (h : RdT w A l) (hb : Below w.heap.size w w') : RdT w' A l := by
  rcases h with rfl | ⟨b, off, h1, h2⟩
  · exact .inl rfl
  · exact .inr ⟨b, off, h1, fun j hj => (hb.cell (World.block_lt_of_cell? w ⟨b, off + j, none⟩ (h2 j hj))).trans (h2 j hj)⟩

/-- A text as it is laid. -/
def laidS (s : List UInt8) : List UInt8 := laidB s.length 0 ++ s
def laidSs (ss : List (List UInt8)) : List UInt8 := ss.flatMap laidS
theorem laidSs_snoc (ss : List (List UInt8)) (s : List UInt8) : laidSs (ss ++ [s]) = laidSs ss ++ laidS s := by simp [laidSs]
def textSum (ss : List (List UInt8)) : Nat := (ss.map List.length).sum
theorem laidSs_len (ss : List (List UInt8)) : (laidSs ss).length ≤ 9 * ss.length + textSum ss := by
  induction ss with
  | nil => simp [laidSs, textSum]
  | cons s r ih =>
    have h1 := laidB_len s.length 0
    have h2 := wid_le s.length
    show (laidB s.length 0 ++ s ++ laidSs r).length ≤ 9 * (r.length + 1) + (s.length + textSum r)
    simp only [List.length_append]
    omega
theorem textSum_take (ss : List (List UInt8)) (k : Nat) (h : k < ss.length) : textSum (ss.take k) + ss[k].length ≤ textSum ss := by
  have e : textSum (ss.take (k + 1)) = textSum (ss.take k) + ss[k].length := by
    unfold textSum
    rw [List.take_succ_eq_append_getElem h, List.map_append, List.sum_append]
    simp
  have e2 : textSum ss = textSum (ss.take (k + 1)) + textSum (ss.drop (k + 1)) := by
    unfold textSum
    rw [← List.sum_append, ← List.map_append, List.take_append_drop]
  omega
theorem strCells_bv (s : List UInt8) : Lib.strCells ⟨s.toArray⟩ = s.map bv := by
  simp [Lib.strCells, bv]

set_option maxHeartbeats 1000000 in
/-- Str. -/
theorem str_lay (A B : Option Addr) (l0 : List UInt8) (ss : List (List UInt8)) (n c m c' : Nat) (w : World) (hl : l0.length = n) (hm : ss.length = m) (hnc : n ≤ c) (hc : c ≤ 9223372036854775807) (hr : Rd w A l0) (hk : RdT w B ss) (hsz : n + 9 * m + textSum ss ≤ 140737488355328) :
    Calls Try.prog 40 #[.slice A n c, .slice B m c'] w fun e w' => ∃ v, e = .returned v ∧ Ga w' w.heap.size v (l0 ++ laidSs ss) ∧ Below w.heap.size w w' := by
  subst hl
  have HM := Lib.hid hm
  have HCl := Lib.hid (clip_any A l0.length c w hnc hc)
  clear hm
  obtain ⟨i0, hi, hz0, hz1, hz2⟩ := info_parts bytesT.info
  have HI := Lib.hid (And.intro hi (And.intro hz0 (And.intro hz1 hz2)))
  clear hi hz0 hz1 hz2
  go_enter Try.func40, Try.ntmps40
  go_wp2_with (go_at_call 76; refine HCl.out.mono ?_; rintro e w' ⟨rfl, rfl⟩)
  go_loopw [0, 11] (fun v i wr => ∃ k : Nat, k ≤ m ∧ i = .int .i64 k ∧ Ga wr w.heap.size v (l0 ++ laidSs (ss.take k)) ∧ Below w.heap.size w wr) (fun _ i _ => m - (intOf i).toNat)
  case atStart => exact ⟨0, Nat.zero_le _, rfl, by simpa [laidSs] using Ga.of_rd hr w.heap.size, Below.refl _ _⟩
  case round =>
    obtain ⟨k, hkm, rfl, hga, hbw⟩ := hrel
    by_cases hlt : k < m
    · have hkl : k < ss.length := by rw [HM.out]; exact hlt
      obtain ⟨b, off, rfl, hcell⟩ := (hk.below hbw).at_ (k := k) hkl
      have HT := Lib.hid (show laidSs (ss.take (k + 1)) = laidSs (ss.take k) ++ laidS ss[k] by rw [List.take_succ_eq_append_getElem hkl, laidSs_snoc])
      have hts := textSum_take ss k hkl
      generalize ss[k] = x at *
      have hln := laidSs_len (ss.take k)
      rw [List.length_take] at hln
      have hll : (l0 ++ laidSs (ss.take k)).length + 9 + x.length ≤ 140737488355328 := by rw [List.length_append]; omega
      obtain ⟨L, hL⟩ : ∃ L, L = l0 ++ laidSs (ss.take k) := ⟨_, rfl⟩
      rw [← hL] at hga hll
      have HT2 := Lib.hid (show l0 ++ laidSs (ss.take (k + 1)) = L ++ laidB x.length 0 ++ x by rw [HT.out, hL, laidS, List.append_assoc, List.append_assoc])
      clear hL HT hln
      obtain ⟨A2, cA2, hv, _, _⟩ := hga.rd
      subst hv
      have hd1 : decide (k < m) = true := by simp; omega
      have hxs : (⟨x.toArray⟩ : ByteArray).size = x.length := by simp [ByteArray.size]
      have hx64 : x.length < 18446744073709551616 := by omega
      have HC := Lib.hid (counted_0 _ _ x.length wr w.heap.size hga hbw.size hx64 (by omega))
      have hlb := laidB_len x.length 0
      have hwl := wid_le x.length
      obtain ⟨L2, hL2⟩ : ∃ L2, L2 = L ++ laidB x.length 0 := ⟨_, rfl⟩
      rw [← hL2] at HC HT2
      have hL2l : L2.length + x.length ≤ 140737488355328 := by rw [hL2, List.length_append]; omega
      have hmx : L2.length + (⟨x.toArray⟩ : ByteArray).size ≤ maxLen := by rw [hxs]; unfold maxLen; omega
      have hbx : L2.length + (⟨x.toArray⟩ : ByteArray).size ≤ 140737488355328 := by rw [hxs]; exact hL2l
      have HXS := Lib.hid hxs
      have HMX := Lib.hid (And.intro hmx hbx)
      clear hL2 hlb hwl hxs hmx hbx
      go_wp2_with (first
        | (go_at_call 77; refine HC.out.mono ?_; rintro e w2 ⟨v2, rfl, hown2, hb2⟩; have hbz := Nat.le_trans hbw.size hb2.size)
        | (at_builtin; refine Lib.wpList_append_own_string _ rfl (.tmp 19) (.tmp 20) 51 9 rfl w.heap.size 5 i0 bytesT.ht Try.underlying9 HI.out.1 HI.out.2.1 HI.out.2.2.1 HI.out.2.2.2 _ _ _ rfl hown2 ⟨x.toArray⟩ rfl HMX.out.1 HMX.out.2 hbz ?_; intro v3 w3 hown3 hgr3 _))
      have hb3 : Below w.heap.size w w3 := (hbw.trans hb2).grown hgr3 hbz (fun k hk => (hown2.lt k hk).1)
      rw [strCells_bv, ← List.map_append, HXS.out] at hown3
      go_roundw
      case rel => exact ⟨k + 1, by omega, by go_num, .inl (by rw [HT2.out, List.length_append]; exact hown3), hb3⟩
      case measure => simp [intOf]; omega
    · have hd1 : decide (k < m) = false := by simp; omega
      obtain rfl : k = m := by omega
      go_wp2
      go_ret
      refine ⟨_, rfl, ?_, hbw⟩
      rw [List.take_of_length_le (by rw [HM.out]; exact Nat.le_refl _)] at hga
      exact hga
end Go.Proofs.Ytefnjplfemgibaa
