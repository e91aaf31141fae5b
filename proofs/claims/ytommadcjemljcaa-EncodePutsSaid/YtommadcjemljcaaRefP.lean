/- The walks of the document's many, laid, Uint, Int, Text, Crc of layer 1. -/
import Derived.Test.YtommadcjemljcaaLays
import Derived.Test.YtommadcjemljcaaSum
namespace Go.Proofs.Ytommadcjemljcaa
open Go.RowKit
set_option linter.unusedVariables false

theorem wid_zero : wid 0 = 0 := rfl
theorem wid_step (m : Nat) (h0 : 0 < m) (h : m < 18446744073709551616) : wid m = wid (m / 256) + 1 := by
  refine wid_of h ?_ (fun j hj => ?_)
  · have := wid_lt (m / 256) (by omega)
    rw [Nat.pow_succ]
    omega
  · obtain rfl : wid (m / 256) = j := by omega
    cases hw : wid (m / 256) with
    | zero => simp; omega
    | succ i =>
      have := wid_ge (show m / 256 < 18446744073709551616 by omega) hw
      rw [Nat.pow_succ]
      omega

set_option maxHeartbeats 400000 in
theorem many_any (n : Nat) (w : World) (hn : n < 18446744073709551616) : Calls Try.prog 62 #[.int .u64 n] w fun e w' => e = .returned (.int .i64 (wid n)) ∧ w = w' := by
  go_enter Try.func62, Try.ntmps62
  go_wp2
  go_loop [0, 3] (fun m j => ∃ a k : Nat, a < 18446744073709551616 ∧ k + wid a = wid n ∧ m = .int .u64 a ∧ j = .int .i64 k) (fun m _ => (intOf m).toNat)
  case atStart => exact ⟨n, 0, hn, by omega, rfl, rfl⟩
  case round =>
    obtain ⟨a, k, ha, hka, rfl, rfl⟩ := hrel
    have hw := wid_le n
    have HK := Lib.hid hka
    have hk8 : k ≤ 8 := by omega
    clear hka
    by_cases h0 : 0 < a
    · have hd : decide (0 < (a : Int)) = true := by simp; omega
      have HS := Lib.hid (wid_step a h0 ha)
      go_wp2
      go_round
      case rel => exact ⟨a / 256, k + 1, by omega, by have := HS.out; have := HK.out; omega, by go_num, by go_num⟩
      case measure => simp [intOf]; omega
    · obtain rfl : a = 0 := by omega
      have hd : decide (0 < ((0 : Nat) : Int)) = false := by simp
      go_wp2
      go_ret
      exact ⟨ret_int (by have := HK.out; rw [wid_zero] at this; omega), rfl⟩

set_option maxHeartbeats 1000000 in
theorem laid_any (v : Value) (l : List UInt8) (n fl : Nat) (w : World) (base : Nat) (hga : Ga w base v l) (hbase : base ≤ w.heap.size) (hn : n < 18446744073709551616) (hf : fl = 0 ∨ fl = 128) (hl : l.length + 9 ≤ 140737488355328) :
    Calls Try.prog 44 #[v, .int .u64 n, .int .i64 fl] w fun e w' => ∃ v', e = .returned v' ∧ w'.ownsRow base 5 1 v' (l ++ laidB n fl).length ((l ++ laidB n fl).map bv) ∧ Below base w w' := by
  have hw8 := wid_le n
  obtain ⟨A, cA, rfl, _, _⟩ := hga.rd
  have HM := Lib.hid (many_any n w hn)
  have hfl : fl ≤ 128 := by omega
  have HLA : Hid (laidB n fl = UInt8.ofNat (wid n + fl) :: be (wid n) n) := rfl
  have HBL := Lib.hid (be_length (wid n) n)
  have HBT := Lib.hid (be_take_succ (wid n) n)
  clear hf
  generalize wid n = wd at *
  go_enter Try.func44, Try.ntmps44
  obtain ⟨hd, hhd⟩ : ∃ hd, hd = wd + fl := ⟨_, rfl⟩
  rw [← hhd] at HLA
  have hd8 : hd ≤ 136 := by omega
  have hsum : (wd : Int) + (fl : Int) = (hd : Int) := by omega
  clear hhd
  have HCS := Lib.hid (cs_one_byte w (hd : Int) (UInt8.ofNat hd) (by simp [bv]; omega))
  have HGA := Lib.hid (show Ga (w.alloc (.cells #[.int .u8 (hd : Int)] 5)) base (.slice A l.length cA) l from by
    rcases hga with h | ⟨A', hv, hr⟩
    · exact .inl (ownsRow_keep h (below_alloc w _))
    · exact .inr ⟨A', hv, hr.below (below_alloc w _)⟩)
  have hbs : base ≤ (w.alloc (.cells #[.int .u8 (hd : Int)] 5)).heap.size := by simp; omega
  have hbl : l.length + 1 ≤ 140737488355328 := by omega
  have HBA := Lib.hid ((Below.refl base w).alloc hbase (.cells #[.int .u8 (hd : Int)] 5))
  go_upto_region 3 with (first
    | (go_at_call 62; refine HM.out.mono ?_; rintro e w' ⟨rfl, rfl⟩)
    | (at_builtin; refine wpList_ga rfl (.tmp 10) (.tmp 15) rfl base _ l rfl HGA.out ⟨w.heap.size, 0, none⟩ 1 1 [UInt8.ofNat hd] rfl rfl (by omega) HCS.out hbl hbs ?_; intro v1 w1 hown1 hb1))
  have hb1' := HBA.out.trans hb1
  clear HGA HCS hga hb1 HBA hbs hbl hsum HM
  go_wp2
  go_loopw [0, 7] (fun v sh wr => ∃ i : Nat, i ≤ wd ∧ sh = .int .i64 ((wd - i : Nat) : Int) ∧ wr.ownsRow base 5 1 v (l.length + 1 + i) ((l ++ [UInt8.ofNat hd] ++ (be wd n).take i).map bv) ∧ Below base w wr) (fun _ sh _ => (intOf sh).toNat)
  case atStart => exact ⟨0, Nat.zero_le _, by simp, by simpa using hown1, hb1'⟩
  case round =>
    obtain ⟨i, hi, rfl, hown, hb⟩ := hrel
    clear hown1 hb1'
    have hbz : base ≤ wr.heap.size := Nat.le_trans hbase hb.size
    by_cases hlt : i < wd
    · obtain ⟨s, hs⟩ : ∃ s : Nat, wd - i = s + 1 := ⟨wd - i - 1, by omega⟩
      rw [hs]
      have HS2 := Lib.hid (show s = wd - 1 - i by omega)
      have hs7 : s ≤ 7 := by omega
      have hdd : decide (0 < ((s + 1 : Nat) : Int)) = true := by simp
      obtain ⟨q, hq, hq2⟩ : ∃ q : Nat, 8 * (s : Int) = (q : Int) ∧ q = 8 * s := ⟨8 * s, by omega, rfl⟩
      have hq56 : q ≤ 56 := by omega
      have HQ2 := Lib.hid hq2
      clear hq2
      have HS := Lib.hid hs
      clear hs
      have HBY := Lib.hid (show Value.int .u8 ((n : Int) / 2 ^ q % 256) = bv (UInt8.ofNat (n / 256 ^ (wd - 1 - i))) by
        rw [HQ2.out, HS2.out]
        exact shr_byte n _)
      have HCS := Lib.hid (cs_one_byte wr _ _ HBY.out)
      have HOW := Lib.hid (ownsRow_keep hown (below_alloc wr (.cells #[.int .u8 ((n : Int) / 2 ^ q % 256)] 5)))
      have hbs : base ≤ (wr.alloc (.cells #[.int .u8 ((n : Int) / 2 ^ q % 256)] 5)).heap.size := by simp; omega
      have hmx : l.length + 1 + i + 1 ≤ maxLen := by unfold maxLen; omega
      have hbx : (l.length + 1 + i + 1) * 1 ≤ 140737488355328 := by omega
      have hone := bvs_one [UInt8.ofNat (n / 256 ^ (wd - 1 - i))]
      have HX := Lib.hid (show (l ++ [UInt8.ofNat hd] ++ (be wd n).take i).map bv ++ [UInt8.ofNat (n / 256 ^ (wd - 1 - i))].map bv = (l ++ [UInt8.ofNat hd] ++ (be wd n).take (i + 1)).map bv by
        rw [HBT.out i hlt]
        simp only [List.map_append, List.append_assoc])
      have HBA := Lib.hid (hb.alloc hbz (.cells #[.int .u8 ((n : Int) / 2 ^ q % 256)] 5))
      go_wp2_with (at_builtin; refine wpList_app bytesT rfl (.tmp 21) (.tmp 28) rfl base _ (l.length + 1 + i) _ rfl HOW.out (some ⟨wr.heap.size, 0, none⟩) 1 1 ([UInt8.ofNat (n / 256 ^ (wd - 1 - i))].map bv) rfl rfl HCS.out hone hmx hbx hbs ?_; intro v2 w2 hown2 hgr2 _; rw [HX.out] at hown2)
      have hb2 : Below base w w2 := HBA.out.grown hgr2 hbs (fun k hk => (HOW.out.lt k hk).1)
      go_roundw
      case rel => exact ⟨i + 1, by omega, by have := HS.out; congr 1; omega, hown2, hb2⟩
      case measure => simp [intOf]
    · obtain rfl : i = wd := by omega
      rw [Nat.sub_self]
      have hdd : decide (0 < ((0 : Nat) : Int)) = false := by simp
      go_wp2
      go_ret
      refine ⟨_, rfl, ?_, hb⟩
      have h9 := hown
      rw [List.take_of_length_le (by rw [HBL.out]; exact Nat.le_refl _)] at h9
      have e1 : (l ++ laidB n fl).length = l.length + 1 + i := by rw [HLA.out]; simp [HBL.out]; omega
      rw [e1, HLA.out]
      simpa using h9

set_option maxHeartbeats 400000 in
theorem rUint_any (v : Value) (l : List UInt8) (n : Nat) (w : World) (base : Nat) (hga : Ga w base v l) (hbase : base ≤ w.heap.size) (hn : n < 18446744073709551616) (hl : l.length + 9 ≤ 140737488355328) :
    Calls Try.prog 21 #[v, .int .u64 n] w fun e w' => ∃ v', e = .returned v' ∧ w'.ownsRow base 5 1 v' (l ++ laidB n 0).length ((l ++ laidB n 0).map bv) ∧ Below base w w' := by
  have HC := Lib.hid (show Calls Try.prog 44 #[v, .int .u64 n, .int .i64 0] w fun e w' => ∃ v', e = .returned v' ∧ w'.ownsRow base 5 1 v' (l ++ laidB n 0).length ((l ++ laidB n 0).map bv) ∧ Below base w w' from laid_any v l n 0 w base hga hbase hn (.inl rfl) hl)
  obtain ⟨A, cA, rfl, _, _⟩ := hga.rd
  go_enter Try.func21, Try.ntmps21
  go_wp2_with (go_at_call 44; refine HC.out.mono ?_; rintro e w2 ⟨v2, rfl, hown2, hb2⟩)
  go_ret
  exact ⟨_, rfl, hown2, hb2⟩

set_option maxHeartbeats 400000 in
theorem rInt_any (v : Value) (l : List UInt8) (z : Int) (w : World) (base : Nat) (hga : Ga w base v l) (hbase : base ≤ w.heap.size) (h1 : -9223372036854775808 ≤ z) (h2 : z ≤ 9223372036854775807) (hl : l.length + 9 ≤ 140737488355328) :
    Calls Try.prog 45 #[v, .int .i64 z] w fun e w' => ∃ v', e = .returned v' ∧ w'.ownsRow base 5 1 v' (l ++ laidI z).length ((l ++ laidI z).map bv) ∧ Below base w w' := by
  obtain ⟨A, cA, rfl, _, _⟩ := hga.rd
  by_cases hz : z < 0
  · have hd : decide (z < 0) = true := by simpa using hz
    obtain ⟨n, hn, hn2, hn3⟩ : ∃ n : Nat, -(z + 1) = (n : Int) ∧ n < 9223372036854775808 ∧ (-(z + 1)).toNat = n := ⟨(-(z + 1)).toNat, by omega, by omega, rfl⟩
    have HE := Lib.hid (show laidI z = laidB n 128 by unfold laidI; rw [if_pos hz, hn3])
    have HC := Lib.hid (show Calls Try.prog 44 #[.slice A l.length cA, .int .u64 n, .int .i64 128] w fun e w' => ∃ v', e = .returned v' ∧ w'.ownsRow base 5 1 v' (l ++ laidB n 128).length ((l ++ laidB n 128).map bv) ∧ Below base w w' from laid_any _ l n 128 w base hga hbase (by omega) (.inr rfl) hl)
    have q1 : IntKind.u64.wrap (-(z + 1)) = (n : Int) := by rw [hn]; show (n : Int) % 18446744073709551616 = _; omega
    have q2 : (-(z + 1)) % 18446744073709551616 = (n : Int) := by omega
    clear hn3
    go_enter Try.func45, Try.ntmps45
    go_wp2_with (go_at_call 44; refine HC.out.mono ?_; rintro e w2 ⟨v2, rfl, hown2, hb2⟩)
    go_ret
    rw [HE.out]
    exact ⟨_, rfl, hown2, hb2⟩
  · have hd : decide (z < 0) = false := by simpa using hz
    obtain ⟨n, rfl⟩ := Int.eq_ofNat_of_zero_le (show 0 ≤ z by omega)
    have HE := Lib.hid (show laidI (n : Int) = laidB n 0 by unfold laidI; rw [if_neg hz, Int.toNat_natCast])
    have HC := Lib.hid (show Calls Try.prog 44 #[.slice A l.length cA, .int .u64 n, .int .i64 0] w fun e w' => ∃ v', e = .returned v' ∧ w'.ownsRow base 5 1 v' (l ++ laidB n 0).length ((l ++ laidB n 0).map bv) ∧ Below base w w' from laid_any _ l n 0 w base hga hbase (by omega) (.inl rfl) hl)
    go_enter Try.func45, Try.ntmps45
    go_wp2_with (go_at_call 44; refine HC.out.mono ?_; rintro e w2 ⟨v2, rfl, hown2, hb2⟩)
    go_ret
    rw [HE.out]
    exact ⟨_, rfl, hown2, hb2⟩

set_option maxHeartbeats 400000 in
theorem rText_any (v : Value) (l : List UInt8) (x : List UInt8) (w : World) (base : Nat) (hga : Ga w base v l) (hbase : base ≤ w.heap.size) (hl : l.length + 9 + x.length ≤ 140737488355328) :
    Calls Try.prog 46 #[v, .string ⟨x.toArray⟩] w fun e w' => ∃ v', e = .returned v' ∧ w'.ownsRow base 5 1 v' (l ++ laidS x).length ((l ++ laidS x).map bv) ∧ Below base w w' := by
  obtain ⟨i0, hi, hz0, hz1, hz2⟩ := info_parts bytesT.info
  have HI := Lib.hid (And.intro hi (And.intro hz0 (And.intro hz1 hz2)))
  clear hi hz0 hz1 hz2
  have HC := Lib.hid (rUint_any v l x.length w base hga hbase (by omega) (by omega))
  obtain ⟨A, cA, rfl, _, _⟩ := hga.rd
  have hlb := laidB_len x.length 0
  have hwl := wid_le x.length
  obtain ⟨L2, hL2⟩ : ∃ L2, L2 = l ++ laidB x.length 0 := ⟨_, rfl⟩
  rw [← hL2] at HC
  have HE := Lib.hid (show l ++ laidS x = L2 ++ x by rw [hL2, laidS, List.append_assoc])
  have hL2l : L2.length + x.length ≤ 140737488355328 := by rw [hL2, List.length_append]; omega
  have hxs : (⟨x.toArray⟩ : ByteArray).size = x.length := by simp [ByteArray.size]
  have HMX := Lib.hid (And.intro (show L2.length + (⟨x.toArray⟩ : ByteArray).size ≤ maxLen by rw [hxs]; unfold maxLen; omega) (show L2.length + (⟨x.toArray⟩ : ByteArray).size ≤ 140737488355328 by rw [hxs]; exact hL2l))
  have HXS := Lib.hid hxs
  have hx9 : x.length ≤ 140737488355328 := by omega
  clear hL2 hlb hwl hxs
  go_enter Try.func46, Try.ntmps46
  go_wp2_with (first
    | (go_at_call 21; refine HC.out.mono ?_; rintro e w2 ⟨v2, rfl, hown2, hb2⟩; have hbz := Nat.le_trans hbase hb2.size)
    | (at_builtin; refine Lib.wpList_append_own_string _ rfl (.tmp 9) (.tmp 10) 23 9 rfl base 5 i0 bytesT.ht Try.underlying9 HI.out.1 HI.out.2.1 HI.out.2.2.1 HI.out.2.2.2 _ _ _ rfl hown2 ⟨x.toArray⟩ rfl HMX.out.1 HMX.out.2 hbz ?_; intro v3 w3 hown3 hgr3 _))
  have hb3 : Below base w w3 := hb2.grown hgr3 hbz (fun k hk => (hown2.lt k hk).1)
  rw [strCells_bv, ← List.map_append, HXS.out] at hown3
  go_ret
  exact ⟨_, rfl, by rw [HE.out, List.length_append]; exact hown3, hb3⟩
end Go.Proofs.Ytommadcjemljcaa
