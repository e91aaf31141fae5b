/- The walks of slices.Grow at a nil slice of bytes and of slices.Concat at bytes. The sum of bytes (the cyclic sum of 32 bits of spool.Sum), as a plain function: what follows of it being linear. No program is named here. The walk of spool.Sum. The walks of the document's many, laid, Uint, Int, Text, Crc of layer 1. The walks of the document's laid, Uint, Int, Text of layer 1, onto a row of the call's own: what else lies there stays. -/
import Derived.Test.YtefnjplfemgibaaProg
import Derived.Test.YtefnjplfemgibaaBase
import Derived.Test.YtefnjplfemgibaaLibA
import Derived.Lib.AppendZerosOnto
import Derived.Laws.BitsAllLaws
import Derived.Test.YtefnjplfemgibaaLays
namespace Go.Proofs.Ytefnjplfemgibaa
section
open Go.RowKit
set_option linter.unusedVariables false

/-- A slice of slices of bytes reads as lists of bytes. -/
def RdL (w : World) (A : Option Addr) (ls : List (List UInt8)) : Prop :=
  ls = [] ∨ ∃ b off, A = some ⟨b, off, none⟩ ∧ ∀ j, (h : j < ls.length) → ∃ B c, w.cell? ⟨b, off + j, none⟩ = some (.slice B ls[j].length c) ∧ Rd w B ls[j]

theorem RdL.at_ {w : World} {A : Option Addr} {ls : List (List UInt8)} (h : RdL w A ls) {k : Nat} (hk : k < ls.length) :
    ∃ b off B c, A = some ⟨b, off, none⟩ ∧ w.cell? ⟨b, off + k, none⟩ = some (.slice B (ls[k]'hk).length c) ∧ Rd w B (ls[k]'hk) := by
  rcases h with rfl | ⟨b, off, h1, h2⟩
  · simp at hk
  · obtain ⟨B, c, h3, h4⟩ := h2 k hk
    exact ⟨b, off, B, c, h1, h3, h4⟩
theorem RdL.keep {w w' : World} {A : Option Addr} {ls : List (List UInt8)} (h : RdL w A ls) (hk : ∀ p : Addr, p.block < w.heap.size → w'.cell? p = w.cell? p) : RdL w' A ls := by
  rcases h with rfl | ⟨b, off, h1, h2⟩
  · exact .inl rfl
  · refine .inr ⟨b, off, h1, fun j hj => ?_⟩
    obtain ⟨B, c, h3, h4⟩ := h2 j hj
    exact ⟨B, c, (hk _ (World.block_lt_of_cell? w ⟨b, off + j, none⟩ h3)).trans h3, h4.keep hk⟩
theorem RdL.below {w w' : World} {A : Option Addr} {ls : List (List UInt8)} (h : RdL w A ls) (hb : Below w.heap.size w w') : RdL w' A ls := h.keep fun _ hp => hb.cell hp

theorem flat_take (ls : List (List UInt8)) (k : Nat) (hk : k < ls.length) : (ls.take (k + 1)).flatten = (ls.take k).flatten ++ ls[k] := by
  rw [List.take_succ_eq_append_getElem hk, List.flatten_append]; simp
theorem flat_take_le (ls : List (List UInt8)) (k : Nat) : (ls.take k).flatten.length ≤ ls.flatten.length := by
  conv => rhs; rw [← List.take_append_drop k ls]
  rw [List.flatten_append, List.length_append]
  omega
end
section
/-- One bit of the sum. -/
def crcBit (s : BitVec 32) : BitVec 32 := (s >>> 1) ^^^ (if s.getLsbD 0 then 2197175160#32 else 0#32)
/-- k bits of it. -/
def crcBits : Nat → BitVec 32 → BitVec 32
  | 0, s => s
  | k + 1, s => crcBits k (crcBit s)
theorem crcBits_succ (k : Nat) (s : BitVec 32) : crcBits (k + 1) s = crcBit (crcBits k s) := by
  induction k generalizing s with
  | zero => rfl
  | succ k ih => exact ih (crcBit s)
/-- One byte. -/
def crcByte (s : BitVec 32) (c : UInt8) : BitVec 32 := crcBits 8 (s ^^^ BitVec.ofNat 32 c.toNat)
/-- The register behind bytes. -/
def crcReg (l : List UInt8) : BitVec 32 := l.foldl crcByte 4294967295#32
theorem crcReg_snoc (l : List UInt8) (c : UInt8) : crcReg (l ++ [c]) = crcByte (crcReg l) c := by simp [crcReg]
/-- The sum. -/
def crc (l : List UInt8) : Nat := (~~~ crcReg l).toNat

theorem crc_lt (l : List UInt8) : crc l < 4294967296 := (~~~ crcReg l).isLt

/-- The bit's step as the program reckons it. -/
theorem crcBit_toNat (s : BitVec 32) : (crcBit s).toNat = (s.toNat / 2) ^^^ (2197175160 * (s.toNat % 2)) := by
  unfold crcBit
  have h1 : (s >>> 1).toNat = s.toNat / 2 := by simp [BitVec.toNat_ushiftRight, Nat.shiftRight_eq_div_pow]
  have h2 : s.getLsbD 0 = decide (s.toNat % 2 = 1) := by simp [BitVec.getLsbD, Nat.testBit_zero]
  rw [h2]
  by_cases h : s.toNat % 2 = 1
  · simp [h, h1, BitVec.toNat_xor]
  · have h0 : s.toNat % 2 = 0 := by omega
    simp [h0, h1]
end
section
open Go.RowKit
set_option linter.unusedVariables false

theorem u32_step (s : Nat) (hs : s < 4294967296) : bits BinOp.xor IntKind.u32 ((s : Int) / 2) (2197175160 * bits BinOp.and IntKind.u32 (s : Int) 1 % 4294967296) = (((s / 2) ^^^ (2197175160 * (s % 2)) : Nat) : Int) := by
  have e1 : bits BinOp.and IntKind.u32 (s : Int) 1 = ((s % 2 : Nat) : Int) := by
    have := u32_and_nat s 1 hs (by omega)
    rw [nat_mask1] at this
    exact this
  have e2 : 2197175160 * ((s % 2 : Nat) : Int) % 4294967296 = ((2197175160 * (s % 2) : Nat) : Int) := by omega
  rw [e1, e2, show ((s : Int) / 2) = ((s / 2 : Nat) : Int) from by omega, u32_xor_nat _ _ (by omega) (by omega)]

theorem u32_not (s : BitVec 32) : bits BinOp.xor IntKind.u32 IntKind.u32.max (s.toNat : Int) = ((~~~ s).toNat : Int) := by
  have h : IntKind.u32.max = ((4294967295 : Nat) : Int) := by decide
  rw [h, u32_xor_nat _ _ (by omega) s.isLt]
  have h2 : ~~~ s = 4294967295#32 ^^^ s := BitVec.not_def
  rw [h2, BitVec.toNat_xor]
  rfl
end
section
open Go.RowKit
set_option linter.unusedVariables false

theorem wid_zero : wid 0 = 0 := rfl
theorem wid_step (m : Nat) (h0 : 0 < m) (h : m < 18446744073709551616) : wid m = wid (m / 256) + 1 := by
  refine wid_of h ?_ (fun j hj => ?_)
  · have := wid_lt (m / 256) (by omega)
    rw [Nat.pow_succ]
    omega
  · obtain rfl : wid (m / 256) = j := by omega
    cases hw : wid (m / 256) with
    | zero => simp; omega
    | succ i =>
      have := wid_ge (show m / 256 < 18446744073709551616 by omega) hw
      rw [Nat.pow_succ]
      omega

set_option maxHeartbeats 400000 in
theorem many_any (n : Nat) (w : World) (hn : n < 18446744073709551616) : Calls Try.prog 98 #[.int .u64 n] w fun e w' => e = .returned (.int .i64 (wid n)) ∧ w = w' := by
  go_enter Try.func98, Try.ntmps98
  go_wp2
  go_loop [0, 3] (fun m j => ∃ a k : Nat, a < 18446744073709551616 ∧ k + wid a = wid n ∧ m = .int .u64 a ∧ j = .int .i64 k) (fun m _ => (intOf m).toNat)
  case atStart => exact ⟨n, 0, hn, by omega, rfl, rfl⟩
  case round =>
    obtain ⟨a, k, ha, hka, rfl, rfl⟩ := hrel
    have hw := wid_le n
    have HK := Lib.hid hka
    have hk8 : k ≤ 8 := by omega
    clear hka
    by_cases h0 : 0 < a
    · have hd : decide (0 < (a : Int)) = true := by simp; omega
      have HS := Lib.hid (wid_step a h0 ha)
      go_wp2
      go_round
      case rel => exact ⟨a / 256, k + 1, by omega, by have := HS.out; have := HK.out; omega, by go_num, by go_num⟩
      case measure => simp [intOf]; omega
    · obtain rfl : a = 0 := by omega
      have hd : decide (0 < ((0 : Nat) : Int)) = false := by simp
      go_wp2
      go_ret
      exact ⟨ret_int (by have := HK.out; rw [wid_zero] at this; omega), rfl⟩

set_option maxHeartbeats 1000000 in
theorem laid_any (v : Value) (l : List UInt8) (n fl : Nat) (w : World) (base : Nat) (hga : Ga w base v l) (hbase : base ≤ w.heap.size) (hn : n < 18446744073709551616) (hf : fl = 0 ∨ fl = 128) (hl : l.length + 9 ≤ 140737488355328) :
    Calls Try.prog 87 #[v, .int .u64 n, .int .i64 fl] w fun e w' => ∃ v', e = .returned v' ∧ w'.ownsRow base 5 1 v' (l ++ laidB n fl).length ((l ++ laidB n fl).map bv) ∧ Below base w w' := by
  have hw8 := wid_le n
  obtain ⟨A, cA, rfl, _, _⟩ := hga.rd
  have HM := Lib.hid (many_any n w hn)
  have hfl : fl ≤ 128 := by omega
  have HLA : Hid (laidB n fl = UInt8.ofNat (wid n + fl) :: be (wid n) n) := rfl
  have HBL := Lib.hid (be_length (wid n) n)
  have HBT := Lib.hid (be_take_succ (wid n) n)
  clear hf
  generalize wid n = wd at *
  go_enter Try.func87, Try.ntmps87
  obtain ⟨hd, hhd⟩ : ∃ hd, hd = wd + fl := ⟨_, rfl⟩
  rw [← hhd] at HLA
  have hd8 : hd ≤ 136 := by omega
  have hsum : (wd : Int) + (fl : Int) = (hd : Int) := by omega
  clear hhd
  have HCS := Lib.hid (cs_one_byte w (hd : Int) (UInt8.ofNat hd) (by simp [bv]; omega))
  have HGA := Lib.hid (show Ga (w.alloc (.cells #[.int .u8 (hd : Int)] 5)) base (.slice A l.length cA) l from by
    rcases hga with h | ⟨A', hv, hr⟩
    · exact .inl (ownsRow_keep h (below_alloc w _))
    · exact .inr ⟨A', hv, hr.below (below_alloc w _)⟩)
  have hbs : base ≤ (w.alloc (.cells #[.int .u8 (hd : Int)] 5)).heap.size := by simp; omega
  have hbl : l.length + 1 ≤ 140737488355328 := by omega
  have HBA := Lib.hid ((Below.refl base w).alloc hbase (.cells #[.int .u8 (hd : Int)] 5))
  go_upto_region 3 with (first
    | (go_at_call 98; refine HM.out.mono ?_; rintro e w' ⟨rfl, rfl⟩)
    | (at_builtin; refine wpList_ga rfl (.tmp 10) (.tmp 15) rfl base _ l rfl HGA.out ⟨w.heap.size, 0, none⟩ 1 1 [UInt8.ofNat hd] rfl rfl (by omega) HCS.out hbl hbs ?_; intro v1 w1 hown1 hb1))
  have hb1' := HBA.out.trans hb1
  clear HGA HCS hga hb1 HBA hbs hbl hsum HM
  go_wp2
  go_loopw [0, 7] (fun v sh wr => ∃ i : Nat, i ≤ wd ∧ sh = .int .i64 ((wd - i : Nat) : Int) ∧ wr.ownsRow base 5 1 v (l.length + 1 + i) ((l ++ [UInt8.ofNat hd] ++ (be wd n).take i).map bv) ∧ Below base w wr) (fun _ sh _ => (intOf sh).toNat)
  case atStart => exact ⟨0, Nat.zero_le _, by simp, by simpa using hown1, hb1'⟩
  case round =>
    obtain ⟨i, hi, rfl, hown, hb⟩ := hrel
    clear hown1 hb1'
    have hbz : base ≤ wr.heap.size := Nat.le_trans hbase hb.size
    by_cases hlt : i < wd
    · obtain ⟨s, hs⟩ : ∃ s : Nat, wd - i = s + 1 := ⟨wd - i - 1, by omega⟩
      rw [hs]
      have HS2 := Lib.hid (show s = wd - 1 - i by omega)
      have hs7 : s ≤ 7 := by omega
      have hdd : decide (0 < ((s + 1 : Nat) : Int)) = true := by simp
      obtain ⟨q, hq, hq2⟩ : ∃ q : Nat, 8 * (s : Int) = (q : Int) ∧ q = 8 * s := ⟨8 * s, by omega, rfl⟩
      have hq56 : q ≤ 56 := by omega
      have HQ2 := Lib.hid hq2
      clear hq2
      have HS := Lib.hid hs
      clear hs
      have HBY := Lib.hid (show Value.int .u8 ((n : Int) / 2 ^ q % 256) = bv (UInt8.ofNat (n / 256 ^ (wd - 1 - i))) by
        rw [HQ2.out, HS2.out]
        exact shr_byte n _)
      have HCS := Lib.hid (cs_one_byte wr _ _ HBY.out)
      have HOW := Lib.hid (ownsRow_keep hown (below_alloc wr (.cells #[.int .u8 ((n : Int) / 2 ^ q % 256)] 5)))
      have hbs : base ≤ (wr.alloc (.cells #[.int .u8 ((n : Int) / 2 ^ q % 256)] 5)).heap.size := by simp; omega
      have hmx : l.length + 1 + i + 1 ≤ maxLen := by unfold maxLen; omega
      have hbx : (l.length + 1 + i + 1) * 1 ≤ 140737488355328 := by omega
      have hone := bvs_one [UInt8.ofNat (n / 256 ^ (wd - 1 - i))]
      have HX := Lib.hid (show (l ++ [UInt8.ofNat hd] ++ (be wd n).take i).map bv ++ [UInt8.ofNat (n / 256 ^ (wd - 1 - i))].map bv = (l ++ [UInt8.ofNat hd] ++ (be wd n).take (i + 1)).map bv by
        rw [HBT.out i hlt]
        simp only [List.map_append, List.append_assoc])
      have HBA := Lib.hid (hb.alloc hbz (.cells #[.int .u8 ((n : Int) / 2 ^ q % 256)] 5))
      go_wp2_with (at_builtin; refine wpList_app bytesT rfl (.tmp 21) (.tmp 28) rfl base _ (l.length + 1 + i) _ rfl HOW.out (some ⟨wr.heap.size, 0, none⟩) 1 1 ([UInt8.ofNat (n / 256 ^ (wd - 1 - i))].map bv) rfl rfl HCS.out hone hmx hbx hbs ?_; intro v2 w2 hown2 hgr2 _; rw [HX.out] at hown2)
      have hb2 : Below base w w2 := HBA.out.grown hgr2 hbs (fun k hk => (HOW.out.lt k hk).1)
      go_roundw
      case rel => exact ⟨i + 1, by omega, by have := HS.out; congr 1; omega, hown2, hb2⟩
      case measure => simp [intOf]
    · obtain rfl : i = wd := by omega
      rw [Nat.sub_self]
      have hdd : decide (0 < ((0 : Nat) : Int)) = false := by simp
      go_wp2
      go_ret
      refine ⟨_, rfl, ?_, hb⟩
      have h9 := hown
      rw [List.take_of_length_le (by rw [HBL.out]; exact Nat.le_refl _)] at h9
      have e1 : (l ++ laidB n fl).length = l.length + 1 + i := by rw [HLA.out]; simp [HBL.out]; omega
      rw [e1, HLA.out]
      simpa using h9

set_option maxHeartbeats 400000 in
theorem rUint_any (v : Value) (l : List UInt8) (n : Nat) (w : World) (base : Nat) (hga : Ga w base v l) (hbase : base ≤ w.heap.size) (hn : n < 18446744073709551616) (hl : l.length + 9 ≤ 140737488355328) :
    Calls Try.prog 53 #[v, .int .u64 n] w fun e w' => ∃ v', e = .returned v' ∧ w'.ownsRow base 5 1 v' (l ++ laidB n 0).length ((l ++ laidB n 0).map bv) ∧ Below base w w' := by
  have HC := Lib.hid (show Calls Try.prog 87 #[v, .int .u64 n, .int .i64 0] w fun e w' => ∃ v', e = .returned v' ∧ w'.ownsRow base 5 1 v' (l ++ laidB n 0).length ((l ++ laidB n 0).map bv) ∧ Below base w w' from laid_any v l n 0 w base hga hbase hn (.inl rfl) hl)
  obtain ⟨A, cA, rfl, _, _⟩ := hga.rd
  go_enter Try.func53, Try.ntmps53
  go_wp2_with (go_at_call 87; refine HC.out.mono ?_; rintro e w2 ⟨v2, rfl, hown2, hb2⟩)
  go_ret
  exact ⟨_, rfl, hown2, hb2⟩

set_option maxHeartbeats 400000 in
theorem rText_any (v : Value) (l : List UInt8) (x : List UInt8) (w : World) (base : Nat) (hga : Ga w base v l) (hbase : base ≤ w.heap.size) (hl : l.length + 9 + x.length ≤ 140737488355328) :
    Calls Try.prog 54 #[v, .string ⟨x.toArray⟩] w fun e w' => ∃ v', e = .returned v' ∧ w'.ownsRow base 5 1 v' (l ++ laidS x).length ((l ++ laidS x).map bv) ∧ Below base w w' := by
  obtain ⟨i0, hi, hz0, hz1, hz2⟩ := info_parts bytesT.info
  have HI := Lib.hid (And.intro hi (And.intro hz0 (And.intro hz1 hz2)))
  clear hi hz0 hz1 hz2
  have HC := Lib.hid (rUint_any v l x.length w base hga hbase (by omega) (by omega))
  obtain ⟨A, cA, rfl, _, _⟩ := hga.rd
  have hlb := laidB_len x.length 0
  have hwl := wid_le x.length
  obtain ⟨L2, hL2⟩ : ∃ L2, L2 = l ++ laidB x.length 0 := ⟨_, rfl⟩
  rw [← hL2] at HC
  have HE := Lib.hid (show l ++ laidS x = L2 ++ x by rw [hL2, laidS, List.append_assoc])
  have hL2l : L2.length + x.length ≤ 140737488355328 := by rw [hL2, List.length_append]; omega
  have hxs : (⟨x.toArray⟩ : ByteArray).size = x.length := by simp [ByteArray.size]
  have HMX := Lib.hid (And.intro (show L2.length + (⟨x.toArray⟩ : ByteArray).size ≤ maxLen by rw [hxs]; unfold maxLen; omega) (show L2.length + (⟨x.toArray⟩ : ByteArray).size ≤ 140737488355328 by rw [hxs]; exact hL2l))
  have HXS := Lib.hid hxs
  have hx9 : x.length ≤ 140737488355328 := by omega
  clear hL2 hlb hwl hxs
  go_enter Try.func54, Try.ntmps54
  go_wp2_with (first
    | (go_at_call 53; refine HC.out.mono ?_; rintro e w2 ⟨v2, rfl, hown2, hb2⟩; have hbz := Nat.le_trans hbase hb2.size)
    | (at_builtin; refine Lib.wpList_append_own_string _ rfl (.tmp 9) (.tmp 10) 51 9 rfl base 5 i0 bytesT.ht Try.underlying9 HI.out.1 HI.out.2.1 HI.out.2.2.1 HI.out.2.2.2 _ _ _ rfl hown2 ⟨x.toArray⟩ rfl HMX.out.1 HMX.out.2 hbz ?_; intro v3 w3 hown3 hgr3 _))
  have hb3 : Below base w w3 := hb2.grown hgr3 hbz (fun k hk => (hown2.lt k hk).1)
  rw [strCells_bv, ← List.map_append, HXS.out] at hown3
  go_ret
  exact ⟨_, rfl, by rw [HE.out, List.length_append]; exact hown3, hb3⟩
end
section
open Go.RowKit
set_option linter.unusedVariables false

/-- Of what was there only the row of v may have turned; the row of v' is that one or a new one. -/
structure Grow (w w' : World) (v v' : Value) : Prop where
  gr : w.grownBy w' v.ownBlock
  own : v'.ownBlock = v.ownBlock ∨ ∃ g, v'.ownBlock = some g ∧ w.heap.size ≤ g
theorem Grow.refl (w : World) (v : Value) : Grow w w v v := ⟨grown_refl _ _, .inl rfl⟩
theorem Grow.trans {w w' w'' : World} {v v' v'' : Value} (h : Grow w w' v v') (k : Grow w' w'' v' v'') : Grow w w'' v v'' := by
  refine ⟨⟨k.gr.os.trans h.gr.os, k.gr.tape.trans h.gr.tape, k.gr.output.trans h.gr.output, Nat.le_trans h.gr.size k.gr.size, fun i hi hn => ?_⟩, ?_⟩
  · refine (k.gr.block i (Nat.lt_of_lt_of_le hi h.gr.size) (fun e => ?_)).trans (h.gr.block i hi hn)
    rcases h.own with h1 | ⟨g, h1, h2⟩
    · exact hn (e.trans h1)
    · rw [h1] at e
      injection e with e
      omega
  · rcases k.own with k1 | ⟨g, k1, k2⟩
    · rcases h.own with h1 | ⟨g, h1, h2⟩
      · exact .inl (k1.trans h1)
      · exact .inr ⟨g, k1.trans h1, h2⟩
    · exact .inr ⟨g, k1, Nat.le_trans h.gr.size k2⟩
theorem Grow.alloc {w w' : World} {v v' : Value} (h : Grow w w' v v') (o : Obj) : Grow w (w'.alloc o) v v' := by
  have hb := below_alloc w' o
  exact ⟨⟨hb.os.trans h.gr.os, hb.tape.trans h.gr.tape, hb.output.trans h.gr.output, Nat.le_trans h.gr.size hb.size, fun i hi hn => (hb.block i (Nat.lt_of_lt_of_le hi h.gr.size)).trans (h.gr.block i hi hn)⟩, h.own⟩
theorem Grow.of {w w' : World} {v v' : Value} (h : w.grownBy w' v.ownBlock) (k : v'.ownBlock = v.ownBlock ∨ v'.ownBlock = some w.heap.size) : Grow w w' v v' :=
  ⟨h, k.imp id (fun k => ⟨_, k, Nat.le_refl _⟩)⟩
theorem Grow.below {w w' : World} {v v' : Value} {base e size n : Nat} {xs : List Value} (h : Grow w w' v v') (hb : base ≤ w.heap.size) (ho : w.ownsRow base e size v n xs) : Below base w w' :=
  (Below.refl _ _).grown h.gr hb (fun k hk => (ho.lt k hk).1)
/-- Another row stays. -/
theorem Grow.other {w w' : World} {v v' u : Value} {base e size n : Nat} {xs : List Value} (h : Grow w w' v v') (ho : w.ownsRow base e size u n xs) (hne : ∀ k, u.ownBlock = some k → v.ownBlock ≠ some k) : w'.ownsRow base e size u n xs := by
  refine ho.kept h.gr ?_
  cases hu : u.ownBlock with
  | none => simp
  | some k => exact .inr fun e => hne k hu e.symm

/-- append of a text onto a row of the call's own: whose the row is. -/
theorem wpList_apps {P : Program} {w : World} {ops : Array Oper} {rest : List Oper} {o : Oper} {a : Act} {Q : Exit → Act → World → Prop} (hgd : o.guard = none) (sl x : Operand) (t u : TypeId)
    (ho : o.op = .call { callee := .builtin .append, args := #[sl, x], argTypes := #[t, u] })
    (base : Nat) (e : TypeId) (T : ElT P t e (.int .u8 0) 1 1) (hu : P.underlying u = some .string)
    (v : Value) (n : Nat) (xs : List Value) (hs : a.eval sl = v) (hown : w.ownsRow base e 1 v n xs) (s : ByteArray) (hx : a.eval x = .string s)
    (h63 : n + s.size ≤ maxLen) (hbytes : n + s.size ≤ 140737488355328) (hbase : base ≤ w.heap.size)
    (h : ∀ v' w', w'.ownsRow base e 1 v' (n + s.size) (xs ++ Lib.strCells s) → w.grownBy w' v.ownBlock → (v'.ownBlock = v.ownBlock ∨ v'.ownBlock = some w.heap.size) → wpList P ops Q rest (a.put o.dst v') w') : wpList P ops Q (o :: rest) a w := by
  refine wpList_plain hgd fun K hK => ?_
  obtain ⟨i, hi, hz, hsize, hby⟩ := info_parts T.info
  have ht := T.ht
  have hsmall : n + s.size ≤ 9223372036854775807 := by simp only [maxLen] at h63; omega
  obtain ⟨v', w', hr, h2, h3, h4⟩ := Lib.run_append_own_string (P := P) w base t u o.type e i ht hu hi hz hsize hby v n xs hown s h63 hbytes hbase
  have hb : v'.ownBlock = v.ownBlock ∨ v'.ownBlock = some w.heap.size := by
    rcases hown.2 with ⟨rfl, rfl⟩ | ⟨g, cap, cur, rfl, hbg, hg, hnc, hcm, hcs, htake⟩
    · by_cases hm : s.size = 0
      · obtain rfl := h4.2 ⟨rfl, hm⟩
        exact .inl rfl
      · have hr2 := run_append_nil_string (P := P) w t u o.type e i (.int .u8 0) ht hu hi hz s (by omega) (by omega) (by rw [hby]; omega)
        rw [hr] at hr2
        injection hr2 with hr3 _
        subst hr3
        exact .inr rfl
    · by_cases hroom : n + s.size ≤ cap
      · have hcs' : cur.size = cap := by simpa using hcs
        have hr2 := Lib.run_append_room_string (P := P) w t u o.type e i ht hu hi hsize g n cap cur hg s hroom (by omega)
        rw [hr] at hr2
        injection hr2 with hr3 _
        subst hr3
        exact .inl rfl
      · have hxl : xs.length = n := by simpa using hown.1
        have holds : ∀ j u, xs[j]? = some u → w.cell? ((⟨g, 0, none⟩ : Addr).add j) = some u := hown.cells (g := g) rfl
        have hr2 := Lib.run_append_grow_string (P := P) w t u o.type e i (.int .u8 0) ht hu hi hz ⟨g, 0, none⟩ n cap xs (by rw [hsize]; simpa using hxl) holds s (by omega) (by omega) (by rw [hby]; exact growslice_fits (by omega) (by omega))
        rw [hr] at hr2
        injection hr2 with hr3 _
        subst hr3
        exact .inr rfl
  unfold Oper.wp execOp
  simp only [ho, resolve, invoke, builtin, Sem.run_bind, Sem.run_pure, Result.andThen_ok, List.map_toArray, List.map_cons, List.map_nil, hs, hx, hr]
  exact hK _ _ (h v' w' h2 h3 hb)

set_option maxHeartbeats 1000000 in
theorem laid_own (v : Value) (l : List UInt8) (n fl : Nat) (w : World) (base : Nat) (hga : w.ownsRow base 5 1 v l.length (l.map bv)) (hbase : base ≤ w.heap.size) (hn : n < 18446744073709551616) (hf : fl = 0 ∨ fl = 128) (hl : l.length + 9 ≤ 140737488355328) :
    Calls Try.prog 87 #[v, .int .u64 n, .int .i64 fl] w fun e w' => ∃ v', e = .returned v' ∧ w'.ownsRow base 5 1 v' (l ++ laidB n fl).length ((l ++ laidB n fl).map bv) ∧ Grow w w' v v' := by
  have hw8 := wid_le n
  obtain ⟨A, cA, rfl, _, _, _⟩ := own_rd hga
  have HM := Lib.hid (many_any n w hn)
  have hfl : fl ≤ 128 := by omega
  have HLA : Hid (laidB n fl = UInt8.ofNat (wid n + fl) :: be (wid n) n) := rfl
  have HBL := Lib.hid (be_length (wid n) n)
  have HBT := Lib.hid (be_take_succ (wid n) n)
  clear hf
  generalize wid n = wd at *
  go_enter Try.func87, Try.ntmps87
  obtain ⟨hd, hhd⟩ : ∃ hd, hd = wd + fl := ⟨_, rfl⟩
  rw [← hhd] at HLA
  have hd8 : hd ≤ 136 := by omega
  have hsum : (wd : Int) + (fl : Int) = (hd : Int) := by omega
  clear hhd
  have HCS := Lib.hid (cs_one_byte w (hd : Int) (UInt8.ofNat hd) (by simp [bv]; omega))
  have HGA := Lib.hid (ownsRow_keep hga (below_alloc w (.cells #[.int .u8 (hd : Int)] 5)))
  have hbs : base ≤ (w.alloc (.cells #[.int .u8 (hd : Int)] 5)).heap.size := by simp; omega
  have hbl : (l.length + 1) * 1 ≤ 140737488355328 := by omega
  have hmx0 : l.length + 1 ≤ maxLen := by unfold maxLen; omega
  have hone0 := bvs_one [UInt8.ofNat hd]
  have HBA := Lib.hid ((Grow.refl w (.slice A l.length cA)).alloc (.cells #[.int .u8 (hd : Int)] 5))
  have HX0 := Lib.hid (show l.map bv ++ [UInt8.ofNat hd].map bv = (l ++ [UInt8.ofNat hd]).map bv by simp)
  go_upto_region 3 with (first
    | (go_at_call 98; refine HM.out.mono ?_; rintro e w' ⟨rfl, rfl⟩)
    | (at_builtin; refine wpList_app bytesT rfl (.tmp 10) (.tmp 15) rfl base _ l.length _ rfl HGA.out (some ⟨w.heap.size, 0, none⟩) 1 1 ([UInt8.ofNat hd].map bv) rfl rfl HCS.out hone0 hmx0 hbl hbs ?_; intro v1 w1 hown1 hgr1 hnb1; rw [HX0.out] at hown1))
  have hb1' := HBA.out.trans (Grow.of hgr1 hnb1)
  have hb1z : w.heap.size ≤ w1.heap.size := hb1'.gr.size
  clear HGA HCS hga hgr1 hnb1 HBA hbs hbl hsum HM hmx0 hone0 HX0
  go_wp2
  go_loopw [0, 7] (fun v sh wr => ∃ i : Nat, i ≤ wd ∧ sh = .int .i64 ((wd - i : Nat) : Int) ∧ wr.ownsRow base 5 1 v (l.length + 1 + i) ((l ++ [UInt8.ofNat hd] ++ (be wd n).take i).map bv) ∧ Grow w wr (.slice A l.length cA) v) (fun _ sh _ => (intOf sh).toNat)
  case atStart => exact ⟨0, Nat.zero_le _, by simp, by simpa using hown1, hb1'⟩
  case round =>
    obtain ⟨i, hi, rfl, hown, hb⟩ := hrel
    clear hown1 hb1'
    have hbz : base ≤ wr.heap.size := Nat.le_trans hbase hb.gr.size
    by_cases hlt : i < wd
    · obtain ⟨s, hs⟩ : ∃ s : Nat, wd - i = s + 1 := ⟨wd - i - 1, by omega⟩
      rw [hs]
      have HS2 := Lib.hid (show s = wd - 1 - i by omega)
      have hs7 : s ≤ 7 := by omega
      have hdd : decide (0 < ((s + 1 : Nat) : Int)) = true := by simp
      obtain ⟨q, hq, hq2⟩ : ∃ q : Nat, 8 * (s : Int) = (q : Int) ∧ q = 8 * s := ⟨8 * s, by omega, rfl⟩
      have hq56 : q ≤ 56 := by omega
      have HQ2 := Lib.hid hq2
      clear hq2
      have HS := Lib.hid hs
      clear hs
      have HBY := Lib.hid (show Value.int .u8 ((n : Int) / 2 ^ q % 256) = bv (UInt8.ofNat (n / 256 ^ (wd - 1 - i))) by
        rw [HQ2.out, HS2.out]
        exact shr_byte n _)
      have HCS := Lib.hid (cs_one_byte wr _ _ HBY.out)
      have HOW := Lib.hid (ownsRow_keep hown (below_alloc wr (.cells #[.int .u8 ((n : Int) / 2 ^ q % 256)] 5)))
      have hbs : base ≤ (wr.alloc (.cells #[.int .u8 ((n : Int) / 2 ^ q % 256)] 5)).heap.size := by simp; omega
      have hmx : l.length + 1 + i + 1 ≤ maxLen := by unfold maxLen; omega
      have hbx : (l.length + 1 + i + 1) * 1 ≤ 140737488355328 := by omega
      have hone := bvs_one [UInt8.ofNat (n / 256 ^ (wd - 1 - i))]
      have HX := Lib.hid (show (l ++ [UInt8.ofNat hd] ++ (be wd n).take i).map bv ++ [UInt8.ofNat (n / 256 ^ (wd - 1 - i))].map bv = (l ++ [UInt8.ofNat hd] ++ (be wd n).take (i + 1)).map bv by
        rw [HBT.out i hlt]
        simp only [List.map_append, List.append_assoc])
      have HBA := Lib.hid (hb.alloc (.cells #[.int .u8 ((n : Int) / 2 ^ q % 256)] 5))
      go_wp2_with (at_builtin; refine wpList_app bytesT rfl (.tmp 21) (.tmp 28) rfl base _ (l.length + 1 + i) _ rfl HOW.out (some ⟨wr.heap.size, 0, none⟩) 1 1 ([UInt8.ofNat (n / 256 ^ (wd - 1 - i))].map bv) rfl rfl HCS.out hone hmx hbx hbs ?_; intro v2 w2 hown2 hgr2 hnb2; rw [HX.out] at hown2)
      have hb2 := HBA.out.trans (Grow.of hgr2 hnb2)
      go_roundw
      case rel => exact ⟨i + 1, by omega, by have := HS.out; congr 1; omega, hown2, hb2⟩
      case measure => simp [intOf]
    · obtain rfl : i = wd := by omega
      rw [Nat.sub_self]
      have hdd : decide (0 < ((0 : Nat) : Int)) = false := by simp
      go_wp2
      go_ret
      refine ⟨_, rfl, ?_, hb⟩
      have h9 := hown
      rw [List.take_of_length_le (by rw [HBL.out]; exact Nat.le_refl _)] at h9
      have e1 : (l ++ laidB n fl).length = l.length + 1 + i := by rw [HLA.out]; simp [HBL.out]; omega
      rw [e1, HLA.out]
      simpa using h9

set_option maxHeartbeats 400000 in
theorem rUint_own (v : Value) (l : List UInt8) (n : Nat) (w : World) (base : Nat) (hga : w.ownsRow base 5 1 v l.length (l.map bv)) (hbase : base ≤ w.heap.size) (hn : n < 18446744073709551616) (hl : l.length + 9 ≤ 140737488355328) :
    Calls Try.prog 53 #[v, .int .u64 n] w fun e w' => ∃ v', e = .returned v' ∧ w'.ownsRow base 5 1 v' (l ++ laidB n 0).length ((l ++ laidB n 0).map bv) ∧ Grow w w' v v' := by
  have HC := Lib.hid (show Calls Try.prog 87 #[v, .int .u64 n, .int .i64 0] w fun e w' => ∃ v', e = .returned v' ∧ w'.ownsRow base 5 1 v' (l ++ laidB n 0).length ((l ++ laidB n 0).map bv) ∧ Grow w w' v v' from laid_own v l n 0 w base hga hbase hn (.inl rfl) hl)
  obtain ⟨A, cA, rfl, _, _, _⟩ := own_rd hga
  go_enter Try.func53, Try.ntmps53
  go_wp2_with (go_at_call 87; refine HC.out.mono ?_; rintro e w2 ⟨v2, rfl, hown2, hb2⟩)
  go_ret
  exact ⟨_, rfl, hown2, hb2⟩

set_option maxHeartbeats 400000 in
theorem rText_own (v : Value) (l : List UInt8) (x : List UInt8) (w : World) (base : Nat) (hga : w.ownsRow base 5 1 v l.length (l.map bv)) (hbase : base ≤ w.heap.size) (hl : l.length + 9 + x.length ≤ 140737488355328) :
    Calls Try.prog 54 #[v, .string ⟨x.toArray⟩] w fun e w' => ∃ v', e = .returned v' ∧ w'.ownsRow base 5 1 v' (l ++ laidS x).length ((l ++ laidS x).map bv) ∧ Grow w w' v v' := by
  have HC := Lib.hid (rUint_own v l x.length w base hga hbase (by omega) (by omega))
  obtain ⟨A, cA, rfl, _, _, _⟩ := own_rd hga
  have hlb := laidB_len x.length 0
  have hwl := wid_le x.length
  obtain ⟨L2, hL2⟩ : ∃ L2, L2 = l ++ laidB x.length 0 := ⟨_, rfl⟩
  rw [← hL2] at HC
  have HE := Lib.hid (show l ++ laidS x = L2 ++ x by rw [hL2, laidS, List.append_assoc])
  have hL2l : L2.length + x.length ≤ 140737488355328 := by rw [hL2, List.length_append]; omega
  have hxs : (⟨x.toArray⟩ : ByteArray).size = x.length := by simp [ByteArray.size]
  have HMX := Lib.hid (And.intro (show L2.length + (⟨x.toArray⟩ : ByteArray).size ≤ maxLen by rw [hxs]; unfold maxLen; omega) (show L2.length + (⟨x.toArray⟩ : ByteArray).size ≤ 140737488355328 by rw [hxs]; exact hL2l))
  have HXS := Lib.hid hxs
  have hx9 : x.length ≤ 140737488355328 := by omega
  clear hL2 hlb hwl hxs
  go_enter Try.func54, Try.ntmps54
  go_wp2_with (first
    | (go_at_call 53; refine HC.out.mono ?_; rintro e w2 ⟨v2, rfl, hown2, hb2⟩; have hbz := Nat.le_trans hbase hb2.gr.size)
    | (at_builtin; refine wpList_apps rfl (.tmp 9) (.tmp 10) 51 9 rfl base 5 bytesT Try.underlying9 _ _ _ rfl hown2 ⟨x.toArray⟩ rfl HMX.out.1 HMX.out.2 hbz ?_; intro v3 w3 hown3 hgr3 hnb3))
  have hb3 := hb2.trans (Grow.of hgr3 hnb3)
  rw [strCells_bv, ← List.map_append, HXS.out] at hown3
  go_ret
  exact ⟨_, rfl, by rw [HE.out, List.length_append]; exact hown3, hb3⟩
end
end Go.Proofs.Ytefnjplfemgibaa
