/- Bytes as the document has them (embersref01): its walks. The journal of the document (embersref06) in memory; the walks of its small functions. -/
import Derived.Test.YtcnhfbckaacalaaJRS
import Derived.Test.YtcnhfbckaacalaaLeastL
import Derived.Test.YtcnhfbckaacalaaJouU
import Derived.Test.YtcnhfbckaacalaaTapeD
namespace Go.Proofs.Ytcnhfbckaacalaa
section
open Go.RowKit
set_option linter.unusedVariables false

theorem wid_zero : wid 0 = 0 := rfl
theorem wid_step (m : Nat) (h0 : 0 < m) (h : m < 18446744073709551616) : wid m = wid (m / 256) + 1 := by
  refine wid_of h ?_ (fun j hj => ?_)
  · have := wid_lt (m / 256) (by omega)
    rw [Nat.pow_succ]
    omega
  · obtain rfl : wid (m / 256) = j := by omega
    cases hw : wid (m / 256) with
    | zero => simp; omega
    | succ i =>
      have := wid_ge (show m / 256 < 18446744073709551616 by omega) hw
      rw [Nat.pow_succ]
      omega

set_option maxHeartbeats 400000 in
theorem many_any (n : Nat) (w : World) (hn : n < 18446744073709551616) : Calls Try.prog 89 #[.int .u64 n] w fun e w' => e = .returned (.int .i64 (wid n)) ∧ w = w' := by
  go_enter Try.func89, Try.ntmps89
  go_wp2
  go_loop [0, 3] (fun m j => ∃ a k : Nat, a < 18446744073709551616 ∧ k + wid a = wid n ∧ m = .int .u64 a ∧ j = .int .i64 k) (fun m _ => (intOf m).toNat)
  case atStart => exact ⟨n, 0, hn, by omega, rfl, rfl⟩
  case round =>
    obtain ⟨a, k, ha, hka, rfl, rfl⟩ := hrel
    have hw := wid_le n
    have HK := Lib.hid hka
    have hk8 : k ≤ 8 := by omega
    clear hka
    by_cases h0 : 0 < a
    · have hd : decide (0 < (a : Int)) = true := by simp; omega
      have HS := Lib.hid (wid_step a h0 ha)
      go_wp2
      go_round
      case rel => exact ⟨a / 256, k + 1, by omega, by have := HS.out; have := HK.out; omega, by go_num, by go_num⟩
      case measure => simp [intOf]; omega
    · obtain rfl : a = 0 := by omega
      have hd : decide (0 < ((0 : Nat) : Int)) = false := by simp
      go_wp2
      go_ret
      exact ⟨ret_int (by have := HK.out; rw [wid_zero] at this; omega), rfl⟩

set_option maxHeartbeats 1000000 in
theorem laid_any (v : Value) (l : List UInt8) (n fl : Nat) (w : World) (base : Nat) (hga : Ga w base v l) (hbase : base ≤ w.heap.size) (hn : n < 18446744073709551616) (hf : fl = 0 ∨ fl = 128) (hl : l.length + 9 ≤ 140737488355328) :
    Calls Try.prog 88 #[v, .int .u64 n, .int .i64 fl] w fun e w' => ∃ v', e = .returned v' ∧ w'.ownsRow base 5 1 v' (l ++ laidB n fl).length ((l ++ laidB n fl).map bv) ∧ Below base w w' := by
  have hw8 := wid_le n
  obtain ⟨A, cA, rfl, _, _⟩ := hga.rd
  have HM := Lib.hid (many_any n w hn)
  have hfl : fl ≤ 128 := by omega
  have HLA : Hid (laidB n fl = UInt8.ofNat (wid n + fl) :: be (wid n) n) := rfl
  have HBL := Lib.hid (be_length (wid n) n)
  have HBT := Lib.hid (be_take_succ (wid n) n)
  clear hf
  generalize wid n = wd at *
  go_enter Try.func88, Try.ntmps88
  obtain ⟨hd, hhd⟩ : ∃ hd, hd = wd + fl := ⟨_, rfl⟩
  rw [← hhd] at HLA
  have hd8 : hd ≤ 136 := by omega
  have hsum : (wd : Int) + (fl : Int) = (hd : Int) := by omega
  clear hhd
  have HCS := Lib.hid (cs_one_byte w (hd : Int) (UInt8.ofNat hd) (by simp [bv]; omega))
  have HGA := Lib.hid (show Ga (w.alloc (.cells #[.int .u8 (hd : Int)] 5)) base (.slice A l.length cA) l from by
    rcases hga with h | ⟨A', hv, hr⟩
    · exact .inl (ownsRow_keep h (below_alloc w _))
    · exact .inr ⟨A', hv, hr.below (below_alloc w _)⟩)
  have hbs : base ≤ (w.alloc (.cells #[.int .u8 (hd : Int)] 5)).heap.size := by simp; omega
  have hbl : l.length + 1 ≤ 140737488355328 := by omega
  have HBA := Lib.hid ((Below.refl base w).alloc hbase (.cells #[.int .u8 (hd : Int)] 5))
  go_upto_region 3 with (first
    | (go_at_call 89; refine HM.out.mono ?_; rintro e w' ⟨rfl, rfl⟩)
    | (at_builtin; refine wpList_ga rfl (.tmp 10) (.tmp 15) rfl base _ l rfl HGA.out ⟨w.heap.size, 0, none⟩ 1 1 [UInt8.ofNat hd] rfl rfl (by omega) HCS.out hbl hbs ?_; intro v1 w1 hown1 hb1))
  have hb1' := HBA.out.trans hb1
  clear HGA HCS hga hb1 HBA hbs hbl hsum HM
  go_wp2
  go_loopw [0, 7] (fun v sh wr => ∃ i : Nat, i ≤ wd ∧ sh = .int .i64 ((wd - i : Nat) : Int) ∧ wr.ownsRow base 5 1 v (l.length + 1 + i) ((l ++ [UInt8.ofNat hd] ++ (be wd n).take i).map bv) ∧ Below base w wr) (fun _ sh _ => (intOf sh).toNat)
  case atStart => exact ⟨0, Nat.zero_le _, by simp, by simpa using hown1, hb1'⟩
  case round =>
    obtain ⟨i, hi, rfl, hown, hb⟩ := hrel
    clear hown1 hb1'
    have hbz : base ≤ wr.heap.size := Nat.le_trans hbase hb.size
    by_cases hlt : i < wd
    · obtain ⟨s, hs⟩ : ∃ s : Nat, wd - i = s + 1 := ⟨wd - i - 1, by omega⟩
      rw [hs]
      have HS2 := Lib.hid (show s = wd - 1 - i by omega)
      have hs7 : s ≤ 7 := by omega
      have hdd : decide (0 < ((s + 1 : Nat) : Int)) = true := by simp
      obtain ⟨q, hq, hq2⟩ : ∃ q : Nat, 8 * (s : Int) = (q : Int) ∧ q = 8 * s := ⟨8 * s, by omega, rfl⟩
      have hq56 : q ≤ 56 := by omega
      have HQ2 := Lib.hid hq2
      clear hq2
      have HS := Lib.hid hs
      clear hs
      have HBY := Lib.hid (show Value.int .u8 ((n : Int) / 2 ^ q % 256) = bv (UInt8.ofNat (n / 256 ^ (wd - 1 - i))) by
        rw [HQ2.out, HS2.out]
        exact shr_byte n _)
      have HCS := Lib.hid (cs_one_byte wr _ _ HBY.out)
      have HOW := Lib.hid (ownsRow_keep hown (below_alloc wr (.cells #[.int .u8 ((n : Int) / 2 ^ q % 256)] 5)))
      have hbs : base ≤ (wr.alloc (.cells #[.int .u8 ((n : Int) / 2 ^ q % 256)] 5)).heap.size := by simp; omega
      have hmx : l.length + 1 + i + 1 ≤ maxLen := by unfold maxLen; omega
      have hbx : (l.length + 1 + i + 1) * 1 ≤ 140737488355328 := by omega
      have hone := bvs_one [UInt8.ofNat (n / 256 ^ (wd - 1 - i))]
      have HX := Lib.hid (show (l ++ [UInt8.ofNat hd] ++ (be wd n).take i).map bv ++ [UInt8.ofNat (n / 256 ^ (wd - 1 - i))].map bv = (l ++ [UInt8.ofNat hd] ++ (be wd n).take (i + 1)).map bv by
        rw [HBT.out i hlt]
        simp only [List.map_append, List.append_assoc])
      have HBA := Lib.hid (hb.alloc hbz (.cells #[.int .u8 ((n : Int) / 2 ^ q % 256)] 5))
      go_wp2_with (at_builtin; refine wpList_app bytesT rfl (.tmp 21) (.tmp 28) rfl base _ (l.length + 1 + i) _ rfl HOW.out (some ⟨wr.heap.size, 0, none⟩) 1 1 ([UInt8.ofNat (n / 256 ^ (wd - 1 - i))].map bv) rfl rfl HCS.out hone hmx hbx hbs ?_; intro v2 w2 hown2 hgr2 _; rw [HX.out] at hown2)
      have hb2 : Below base w w2 := HBA.out.grown hgr2 hbs (fun k hk => (HOW.out.lt k hk).1)
      go_roundw
      case rel => exact ⟨i + 1, by omega, by have := HS.out; congr 1; omega, hown2, hb2⟩
      case measure => simp [intOf]
    · obtain rfl : i = wd := by omega
      rw [Nat.sub_self]
      have hdd : decide (0 < ((0 : Nat) : Int)) = false := by simp
      go_wp2
      go_ret
      refine ⟨_, rfl, ?_, hb⟩
      have h9 := hown
      rw [List.take_of_length_le (by rw [HBL.out]; exact Nat.le_refl _)] at h9
      have e1 : (l ++ laidB n fl).length = l.length + 1 + i := by rw [HLA.out]; simp [HBL.out]; omega
      rw [e1, HLA.out]
      simpa using h9

set_option maxHeartbeats 400000 in
theorem rUint_any (v : Value) (l : List UInt8) (n : Nat) (w : World) (base : Nat) (hga : Ga w base v l) (hbase : base ≤ w.heap.size) (hn : n < 18446744073709551616) (hl : l.length + 9 ≤ 140737488355328) :
    Calls Try.prog 78 #[v, .int .u64 n] w fun e w' => ∃ v', e = .returned v' ∧ w'.ownsRow base 5 1 v' (l ++ laidB n 0).length ((l ++ laidB n 0).map bv) ∧ Below base w w' := by
  have HC := Lib.hid (show Calls Try.prog 88 #[v, .int .u64 n, .int .i64 0] w fun e w' => ∃ v', e = .returned v' ∧ w'.ownsRow base 5 1 v' (l ++ laidB n 0).length ((l ++ laidB n 0).map bv) ∧ Below base w w' from laid_any v l n 0 w base hga hbase hn (.inl rfl) hl)
  obtain ⟨A, cA, rfl, _, _⟩ := hga.rd
  go_enter Try.func78, Try.ntmps78
  go_wp2_with (go_at_call 88; refine HC.out.mono ?_; rintro e w2 ⟨v2, rfl, hown2, hb2⟩)
  go_ret
  exact ⟨_, rfl, hown2, hb2⟩

set_option maxHeartbeats 400000 in
theorem rText_any (v : Value) (l : List UInt8) (x : List UInt8) (w : World) (base : Nat) (hga : Ga w base v l) (hbase : base ≤ w.heap.size) (hl : l.length + 9 + x.length ≤ 140737488355328) :
    Calls Try.prog 55 #[v, .string ⟨x.toArray⟩] w fun e w' => ∃ v', e = .returned v' ∧ w'.ownsRow base 5 1 v' (l ++ laidS x).length ((l ++ laidS x).map bv) ∧ Below base w w' := by
  obtain ⟨i0, hi, hz0, hz1, hz2⟩ := info_parts bytesT.info
  have HI := Lib.hid (And.intro hi (And.intro hz0 (And.intro hz1 hz2)))
  clear hi hz0 hz1 hz2
  have HC := Lib.hid (rUint_any v l x.length w base hga hbase (by omega) (by omega))
  obtain ⟨A, cA, rfl, _, _⟩ := hga.rd
  have hlb := laidB_len x.length 0
  have hwl := wid_le x.length
  obtain ⟨L2, hL2⟩ : ∃ L2, L2 = l ++ laidB x.length 0 := ⟨_, rfl⟩
  rw [← hL2] at HC
  have HE := Lib.hid (show l ++ laidS x = L2 ++ x by rw [hL2, laidS, List.append_assoc])
  have hL2l : L2.length + x.length ≤ 140737488355328 := by rw [hL2, List.length_append]; omega
  have hxs : (⟨x.toArray⟩ : ByteArray).size = x.length := by simp [ByteArray.size]
  have HMX := Lib.hid (And.intro (show L2.length + (⟨x.toArray⟩ : ByteArray).size ≤ maxLen by rw [hxs]; unfold maxLen; omega) (show L2.length + (⟨x.toArray⟩ : ByteArray).size ≤ 140737488355328 by rw [hxs]; exact hL2l))
  have HXS := Lib.hid hxs
  have hx9 : x.length ≤ 140737488355328 := by omega
  clear hL2 hlb hwl hxs
  go_enter Try.func55, Try.ntmps55
  go_wp2_with (first
    | (go_at_call 78; refine HC.out.mono ?_; rintro e w2 ⟨v2, rfl, hown2, hb2⟩; have hbz := Nat.le_trans hbase hb2.size)
    | (at_builtin; refine Lib.wpList_append_own_string _ rfl (.tmp 9) (.tmp 10) 23 9 rfl base 5 i0 bytesT.ht Try.underlying9 HI.out.1 HI.out.2.1 HI.out.2.2.1 HI.out.2.2.2 _ _ _ rfl hown2 ⟨x.toArray⟩ rfl HMX.out.1 HMX.out.2 hbz ?_; intro v3 w3 hown3 hgr3 _))
  have hb3 : Below base w w3 := hb2.grown hgr3 hbz (fun k hk => (hown2.lt k hk).1)
  rw [strCells_bv, ← List.map_append, HXS.out] at hown3
  go_ret
  exact ⟨_, rfl, by rw [HE.out, List.length_append]; exact hown3, hb3⟩
structure ReadAt (pt : Nat) (A : Option Addr) (c : Nat) (t : TS) (w : World) : Prop where
  obj : Blk w pt 95 #[.slice A t.bytes.length c, .int .i64 (t.pos : Int), .int .i64 (t.fault : Int), .int .i64 (t.spot : Int)]
  rd : Rd w A t.bytes
  ne : ∀ b off, A = some ⟨b, off, none⟩ → b ≠ pt
  cap : t.bytes.length ≤ c
  capm : c ≤ 9223372036854775807
  pos : t.pos ≤ t.bytes.length
  flt : t.fault ≤ 1000
  spt : t.spot ≤ t.bytes.length

section
variable {pt : Nat} {A : Option Addr} {c : Nat} {t : TS} {w w' : World}
theorem ReadAt.cells (h : ReadAt pt A c t w) : w.cell? ⟨pt, 0, none⟩ = some (.slice A t.bytes.length c) ∧ w.cell? ⟨pt, 1, none⟩ = some (.int .i64 (t.pos : Int)) ∧ w.cell? ⟨pt, 2, none⟩ = some (.int .i64 (t.fault : Int)) ∧ w.cell? ⟨pt, 3, none⟩ = some (.int .i64 (t.spot : Int)) :=
  ⟨h.obj.cell 0, h.obj.cell 1, h.obj.cell 2, h.obj.cell 3⟩
theorem ReadAt.keep (h : ReadAt pt A c t w) (hb : Below w.heap.size w w') : ReadAt pt A c t w' := ⟨h.obj.keep hb, h.rd.below hb, h.ne, h.cap, h.capm, h.pos, h.flt, h.spt⟩
theorem ReadAt.far {F : Nat → Prop} (h : ReadAt pt A c t w) (hf : Fr F w w') (h1 : ¬ F pt) (h2 : ∀ b off, A = some ⟨b, off, none⟩ → ¬ F b) : ReadAt pt A c t w' :=
  ⟨hf.blk h.obj h1, hf.rd h.rd (fun b off e _ => h2 b off e), h.ne, h.cap, h.capm, h.pos, h.flt, h.spt⟩
structure RAct (w : World) (pt : Nat) (A : Option Addr) (c : Nat) (t' : TS) (w' : World) : Prop where
  tape : ReadAt pt A c t' w'
  fr : Fr (fun k => k = pt) w w'
theorem drew_ract (h : ReadAt pt A c t w) (q : Nat) : RAct w pt A c t (w.drewN q) := ⟨h.keep (below_drewN (Below.refl _ _) q), Fr.of_below (below_drewN (Below.refl _ _) q) _⟩
theorem RAct.trans {t2 t3 : TS} {w2 w3 : World} (a : RAct w pt A c t2 w2) (b : RAct w2 pt A c t3 w3) : RAct w pt A c t3 w3 := ⟨b.tape, a.fr.same b.fr⟩

set_option maxHeartbeats 400000 in
theorem rfail_ok (h : ReadAt pt A c t w) (e a : Nat) (he : e ≤ 1000) (ha : a ≤ t.bytes.length) (hf : t.fault = 0) :
    Calls Try.prog 77 #[.pointer (some ⟨pt, 0, none⟩), .int .i64 e, .int .i64 a] w fun r w' => r = .returned (.tuple #[]) ∧ RAct w pt A c (t.stops e a) w' := by
  obtain ⟨c0, c1, c2, c3⟩ := h.cells
  rw [hf] at c2
  have f1 := h.obj.frozen 1
  have f2 := h.obj.frozen 2
  have f3 := h.obj.frozen 3
  have HA : Hid (RAct w pt A c (t.stops e a) (((w.setCell ⟨pt, 2, none⟩ (.int .i64 (e : Int))).setCell ⟨pt, 3, none⟩ (.int .i64 (a : Int))).setCell ⟨pt, 1, none⟩ (.int .i64 (a : Int)))) := by
    have hfr := ((Fr.setCell (fun k => k = pt) w (p := ⟨pt, 2, none⟩) (fun _ => rfl) (.int .i64 (e : Int))).same (Fr.setCell (fun k => k = pt) _ (p := ⟨pt, 3, none⟩) (fun _ => rfl) (.int .i64 (a : Int)))).same (Fr.setCell (fun k => k = pt) _ (p := ⟨pt, 1, none⟩) (fun _ => rfl) (.int .i64 (a : Int)))
    exact ⟨⟨((h.obj.set_ 2 _).set_ 3 _).set_ 1 _, hfr.rd h.rd (fun b off e _ => h.ne b off e), h.ne, h.cap, h.capm, ha, he, ha⟩, hfr⟩
  clear hf
  go_enter Try.func77, Try.ntmps77
  go_wp2
  go_end0
  exact ⟨rfl, HA.out⟩

theorem be_head_ne' {n k : Nat} (hn : n < 18446744073709551616) (hk : wid n = k + 1) : UInt8.ofNat (n / 256 ^ k) ≠ 0 := be_head_ne hn hk
/-- Whether a number has as many bytes as were read. -/
theorem wid_told (l : List UInt8) (h8 : l.length ≤ 8) : wid (toldN l) = l.length ↔ ¬ (0 < l.length ∧ l.head? = some 0) := by
  obtain ⟨h1, h2, h3⟩ := be_told l.length l rfl h8
  constructor
  · rintro hw ⟨h0, hz⟩
    obtain ⟨k, hk⟩ : ∃ k, l.length = k + 1 := ⟨l.length - 1, by omega⟩
    have hge := wid_ge (toldN_lt l) (hw.trans hk)
    have hb : be (k + 1) (toldN l) = l := by rw [← hk]; exact h1
    have hh : l.head? = some (UInt8.ofNat (toldN l / 256 ^ k)) := by
      conv => lhs; rw [← hb]
      rfl
    rw [hz] at hh
    exact be_head_ne' (toldN_lt l) (hw.trans hk) (Option.some.inj hh).symm
  · intro hz
    refine wid_of (toldN_lt l) h2 (fun j hj => ?_)
    have h0 : 0 < l.length := by omega
    have h4 := h3 h0 (fun e => hz ⟨h0, by rw [List.head?_eq_getElem?, List.getElem?_eq_getElem h0, e]⟩)
    rw [hj] at h4
    simpa using h4

def MoreIs (signed : Bool) (more : Int) : Prop := (signed = false ∧ more = 0) ∨ (signed = true ∧ more = 128)
def RNumEnds (w : World) (pt : Nat) (A : Option Addr) (c : Nat) (x : (Nat × Bool) × TS) (r : Ending) (w' : World) : Prop :=
  r = .returned (.tuple #[.int .u64 x.1.1, .bool x.1.2]) ∧ RAct w pt A c x.2 w'

set_option maxHeartbeats 1000000 in
theorem taken_stopped (h : ReadAt pt A c t w) (signed : Bool) (more : Int) (hf : t.fault ≠ 0) : Calls Try.prog 87 #[.pointer (some ⟨pt, 0, none⟩), .int .i64 more] w (RNumEnds w pt A c (t.number signed)) := by
  have HN := Lib.hid (show t.number signed = ((0, false), t) by unfold TS.number; rw [if_neg hf])
  have hA := drew_ract h 0
  obtain ⟨c0, c1, c2, c3⟩ := h.cells
  have hfb : ((t.fault : Int) != 0) = true := by simp [hf]
  clear hf
  go_enter Try.func87, Try.ntmps87
  go_wp2
  go_ret2
  rw [HN.out]
  exact ⟨rfl, hA⟩

set_option maxHeartbeats 1000000 in
theorem taken_end (h : ReadAt pt A c t w) (signed : Bool) (more : Int) (hf : t.fault = 0) (hp : ¬ t.pos < t.bytes.length) : Calls Try.prog 87 #[.pointer (some ⟨pt, 0, none⟩), .int .i64 more] w (RNumEnds w pt A c (t.number signed)) := by
  have HN := Lib.hid (show t.number signed = ((0, false), t.stops 3 t.pos) by unfold TS.number; rw [if_pos hf, List.getElem?_eq_none (by omega)])
  have HF := Lib.hid (rfail_ok h 3 t.pos (by omega) h.pos hf)
  obtain ⟨c0, c1, c2, c3⟩ := h.cells
  rw [hf] at c2
  have hd : decide (t.bytes.length ≤ t.pos) = true := by simp; omega
  clear hf
  go_enter Try.func87, Try.ntmps87
  go_wp2_with (go_at_call 77; refine HF.out.mono ?_; rintro e w2 ⟨rfl, hA⟩)
  go_ret2
  rw [HN.out]
  exact ⟨rfl, hA⟩

set_option maxHeartbeats 4000000 in
theorem taken_more (h : ReadAt pt A c t w) (signed : Bool) (more : Int) (hf : t.fault = 0) (hp : t.pos < t.bytes.length) (hd wd : Nat) (below : Bool) (hhd : (t.bytes[t.pos]'hp).toNat = hd) (hways : (signed = false ∧ more = 0 ∧ wd = hd ∧ below = false) ∨ (signed = true ∧ more = 128 ∧ hd < 128 ∧ wd = hd ∧ below = false) ∨ (signed = true ∧ more = 128 ∧ 128 ≤ hd ∧ wd = hd - 128 ∧ below = true)) :
    Calls Try.prog 87 #[.pointer (some ⟨pt, 0, none⟩), .int .i64 more] w (RNumEnds w pt A c (t.rest wd below)) := by
  obtain ⟨c0, c1, c2, c3⟩ := h.cells
  rw [hf] at c2
  have f1 := h.obj.frozen 1
  obtain ⟨b, off, hA, _, hcl⟩ := h.rd.at_ hp
  have hpb := h.pos
  have hcm := h.capm
  have hcap := h.cap
  have hd8 : hd < 256 := by rw [← hhd]; exact u8_lt _
  rw [hhd] at hcl
  subst hA
  have HF10 := Lib.hid (rfail_ok h 10 t.pos (by omega) hpb hf)
  have HF3 := Lib.hid (rfail_ok h 3 t.pos (by omega) hpb hf)
  have hw8 : wd < 256 := by omega
  have hdp : decide (t.bytes.length ≤ t.pos) = false := by simp; omega
  have HRD := Lib.hid h.rd
  have HOK : Hid (∀ n, t.pos + 1 + n ≤ t.bytes.length → RAct w pt (some ⟨b, off, none⟩) c { t with pos := t.pos + 1 + n } (w.setCell ⟨pt, 1, none⟩ (.int .i64 ((t.pos : Int) + 1 + (n : Int))))) := fun n hn => by
    have hfr := Fr.setCell (fun k => k = pt) w (p := ⟨pt, 1, none⟩) (fun _ => rfl) (.int .i64 ((t.pos : Int) + 1 + (n : Int)))
    have e : (t.pos : Int) + 1 + (n : Int) = ((t.pos + 1 + n : Nat) : Int) := by omega
    refine ⟨⟨?_, hfr.rd h.rd (fun b off e _ => h.ne b off e), h.ne, h.cap, h.capm, hn, h.flt, h.spt⟩, hfr⟩
    have := h.obj.set_ 1 (.int .i64 ((t.pos : Int) + 1 + (n : Int)))
    rw [e] at this ⊢
    exact this
  have hways2 : (more = 0 ∧ wd = hd ∧ below = false) ∨ (more = 128 ∧ decide ((128 : Int) ≤ (hd : Int)) = false ∧ wd = hd ∧ below = false) ∨ (more = 128 ∧ decide ((128 : Int) ≤ (hd : Int)) = true ∧ (hd : Int) - 128 = (wd : Int) ∧ below = true) := by
    rcases hways with ⟨h1, h2, h3, h4⟩ | ⟨h1, h2, h3, h4, h5⟩ | ⟨h1, h2, h3, h4, h5⟩
    · exact .inl ⟨h2, h3, h4⟩
    · exact .inr (.inl ⟨h2, by simp; omega, h4, h5⟩)
    · exact .inr (.inr ⟨h2, by simp; omega, by omega, h5⟩)
  clear hways hhd hf
  by_cases hw : 8 < wd
  · have HN := Lib.hid (show t.rest wd below = ((0, false), t.stops 10 t.pos) by unfold TS.rest; rw [if_pos hw])
    rcases hways2 with ⟨rfl, rfl, rfl⟩ | ⟨rfl, hd1, rfl, rfl⟩ | ⟨rfl, hd1, hd2, rfl⟩
    all_goals
      go_enter Try.func87, Try.ntmps87
      go_wp2_with (go_at_call 77; refine HF10.out.mono ?_; rintro e w3 ⟨rfl, hA3⟩)
      go_ret2
      rw [HN.out]
      exact ⟨rfl, hA3⟩
  · by_cases hsh : t.bytes.length - (t.pos + 1) < wd
    · have HN := Lib.hid (show t.rest wd below = ((0, false), t.stops 3 t.pos) by unfold TS.rest; rw [if_neg hw, if_pos hsh])
      have hds : decide ((t.bytes.length : Int) - (t.pos : Int) - 1 < (wd : Int)) = true := by simp; omega
      rcases hways2 with ⟨rfl, rfl, rfl⟩ | ⟨rfl, hd1, rfl, rfl⟩ | ⟨rfl, hd1, hd2, rfl⟩
      all_goals
        go_enter Try.func87, Try.ntmps87
        go_wp2_with (go_at_call 77; refine HF3.out.mono ?_; rintro e w3 ⟨rfl, hA3⟩)
        go_ret2
        rw [HN.out]
        exact ⟨rfl, hA3⟩
    · have hds : decide ((t.bytes.length : Int) - (t.pos : Int) - 1 < (wd : Int)) = false := by simp; omega
      obtain ⟨l, hl⟩ : ∃ l, l = (t.bytes.drop (t.pos + 1)).take wd := ⟨_, rfl⟩
      have hll : l.length = wd := by rw [hl]; simp; omega
      have HLL := Lib.hid hll
      have hend : (t.rest wd below = ((toldN l, below), { t with pos := t.pos + 1 + wd }) ∧ wid (toldN l) = wd) ∨ (t.rest wd below = ((0, false), t.stops 10 t.pos) ∧ ((wid (toldN l) : Int) != (wd : Int)) = true) := by
        have hwt := wid_told l (by omega)
        rw [hll] at hwt
        have hhead : 0 < wd → (l.head? = some 0 ↔ (t.bytes.drop (t.pos + 1)).head? = some 0) := fun h0 => by
          rw [hl, List.head?_take, if_neg (by omega)]
        by_cases hz : 0 < wd ∧ (t.bytes.drop (t.pos + 1)).head? = some 0
        · refine .inr ⟨by unfold TS.rest; rw [if_neg hw, if_neg hsh, if_pos hz], ?_⟩
          have : ¬ wid (toldN l) = wd := fun e => hwt.1 e ⟨hz.1, (hhead hz.1).2 hz.2⟩
          simp; omega
        · refine .inl ⟨by unfold TS.rest; rw [if_neg hw, if_neg hsh, if_neg hz, hl], hwt.2 (fun e => hz ⟨e.1, (hhead e.1).1 e.2⟩)⟩
      have HEND := Lib.hid hend
      have HL := Lib.hid hl
      have hfit : t.pos + 1 + wd ≤ t.bytes.length := by omega
      have HCELL : Hid (∀ k (hk : k < l.length), w.cell? ⟨b, off + (t.pos + 1 + k), none⟩ = some (.int .u8 (l[k].toNat : Int))) := by
        intro k hk
        have hk2 : t.pos + 1 + k < t.bytes.length := by omega
        obtain ⟨b', off', e, _, hc⟩ := HRD.out.at_ hk2
        injection e with e
        injection e with e1 e2
        subst e1 e2
        rw [hc]
        simp only [HL.out, List.getElem_take, List.getElem_drop]
      clear hend hl hll
      rcases hways2 with ⟨rfl, rfl, rfl⟩ | ⟨rfl, hd1, rfl, rfl⟩ | ⟨rfl, hd1, hd2, rfl⟩
      all_goals
        go_enter Try.func87, Try.ntmps87
        go_wp2
        go_loop [9, 10] (fun s i => ∃ k : Nat, k ≤ wd ∧ i = .int .i64 ((k : Int) + 1) ∧ s = .int .u64 (toldN (l.take k))) (fun _ i => wd + 1 - (intOf i).toNat)
        case atStart => exact ⟨0, Nat.zero_le _, rfl, rfl⟩
        case round =>
          obtain ⟨k, hk, rfl, rfl⟩ := hrel
          by_cases hlt : k < wd
          · have hkl : k < l.length := by rw [HLL.out]; exact hlt
            have hck := HCELL.out k hkl
            have HS := Lib.hid (show toldN (l.take (k + 1)) = toldN (l.take k) * 256 % 18446744073709551616 + l[k].toNat by
              rw [← toldN_snoc, ← List.take_succ_eq_append_getElem hkl])
            have hck8 := u8_lt l[k]
            have htk := toldN_lt (l.take k)
            generalize l[k].toNat = ck at *
            generalize toldN (l.take k) = tk at *
            have hd5 : decide ((k : Int) + 1 ≤ (wd : Int)) = true := by simp; omega
            obtain ⟨j, hj, hj2⟩ : ∃ j : Nat, (t.pos : Int) + ((k : Int) + 1) = (j : Int) ∧ t.pos + 1 + k = j := ⟨t.pos + 1 + k, by omega, rfl⟩
            rw [hj2] at hck
            have hjl : j < t.bytes.length := by omega
            clear hj2
            go_wp2
            go_round
            case rel => exact ⟨k + 1, by omega, by go_num, by rw [HS.out, or_byte _ _ htk hck8]⟩
            case measure => simp [intOf]; omega
          · obtain rfl : wd = k := by omega
            have hd5 : decide ((wd : Int) + 1 ≤ (wd : Int)) = false := by simp; omega
            rw [show l.take wd = l from List.take_of_length_le (by rw [HLL.out]; omega)]
            have HMY := Lib.hid (many_any (toldN l) w (toldN_lt l))
            have htl := toldN_lt l
            rcases HEND.out with ⟨e1, e2⟩ | ⟨e1, e2⟩
            · rw [e2] at HMY
              have E1 := Lib.hid e1
              clear e1 e2
              generalize toldN l = tl at *
              have HK := Lib.hid (HOK.out wd hfit)
              have hs1 : (t.pos : Int) + 1 + (wd : Int) ≤ 9223372036854775807 := by omega
              go_wp2_with (go_at_call 89; refine HMY.out.mono ?_; rintro e w3 ⟨rfl, rfl⟩)
              go_ret2
              rw [E1.out]
              exact ⟨rfl, HK.out⟩
            · have E1 := Lib.hid e1
              clear e1
              generalize wid (toldN l) = wl at *
              generalize toldN l = tl at *
              go_wp2_with (first
                | (go_at_call 89; refine HMY.out.mono ?_; rintro e w3 ⟨rfl, rfl⟩)
                | (go_at_call 77; refine HF10.out.mono ?_; rintro e w3 ⟨rfl, hA3⟩))
              go_ret2
              rw [E1.out]
              exact ⟨rfl, hA3⟩

theorem taken_any (h : ReadAt pt A c t w) (signed : Bool) (more : Int) (hm : MoreIs signed more) : Calls Try.prog 87 #[.pointer (some ⟨pt, 0, none⟩), .int .i64 more] w (RNumEnds w pt A c (t.number signed)) := by
  by_cases hf : t.fault = 0
  · by_cases hp : t.pos < t.bytes.length
    · have e : t.number signed = if signed = true ∧ 128 ≤ (t.bytes[t.pos]).toNat then t.rest ((t.bytes[t.pos]).toNat - 128) true else t.rest (t.bytes[t.pos]).toNat false := by
        unfold TS.number
        rw [if_pos hf, List.getElem?_eq_getElem hp]
      rw [e]
      by_cases hs : signed = true ∧ 128 ≤ (t.bytes[t.pos]).toNat
      · rw [if_pos hs]
        rcases hm with ⟨rfl, rfl⟩ | ⟨rfl, rfl⟩
        · exact absurd hs.1 (by simp)
        · exact taken_more h true 128 hf hp _ _ true rfl (.inr (.inr ⟨rfl, rfl, hs.2, rfl, rfl⟩))
      · rw [if_neg hs]
        rcases hm with ⟨rfl, rfl⟩ | ⟨rfl, rfl⟩
        · exact taken_more h false 0 hf hp _ _ false rfl (.inl ⟨rfl, rfl, rfl, rfl⟩)
        · exact taken_more h true 128 hf hp _ _ false rfl (.inr (.inl ⟨rfl, rfl, by simp at hs; omega, rfl, rfl⟩))
    · exact taken_end h signed more hf hp
  · exact taken_stopped h signed more hf

set_option maxHeartbeats 400000 in
theorem ruint_any (h : ReadAt pt A c t w) : Calls Try.prog 76 #[.pointer (some ⟨pt, 0, none⟩)] w fun r w' => r = .returned (.int .u64 (t.number false).1.1) ∧ RAct w pt A c (t.number false).2 w' := by
  have HN := Lib.hid (taken_any h false 0 (.inl ⟨rfl, rfl⟩))
  generalize t.number false = x at *
  go_enter Try.func76, Try.ntmps76
  go_wp2_with (go_at_call 87; refine HN.out.mono ?_; rintro e w2 ⟨rfl, hA⟩)
  go_ret
  exact ⟨rfl, hA⟩
end
theorem number_failed {t : TS} (s : Bool) (h : (t.number s).2.fault ≠ 0) : (t.number s).1 = (0, false) := by
  have hr : ∀ wd b, t.fault = 0 → (t.rest wd b).2.fault ≠ 0 → (t.rest wd b).1 = (0, false) := by
    intro wd b hf
    unfold TS.rest
    by_cases h1 : 8 < wd
    · rw [if_pos h1]; intro _; rfl
    · rw [if_neg h1]
      by_cases h2 : t.bytes.length - (t.pos + 1) < wd
      · rw [if_pos h2]; intro _; rfl
      · rw [if_neg h2]
        by_cases h3 : 0 < wd ∧ (t.bytes.drop (t.pos + 1)).head? = some 0
        · rw [if_pos h3]; intro _; rfl
        · rw [if_neg h3]; intro hne; exact absurd hf hne
  by_cases hf : t.fault = 0
  · cases hb : t.bytes[t.pos]? with
    | none => unfold TS.number; rw [if_pos hf, hb]
    | some x =>
      by_cases hs : s = true ∧ 128 ≤ x.toNat
      · have e : t.number s = t.rest (x.toNat - 128) true := by unfold TS.number; rw [if_pos hf, hb]; exact if_pos hs
        rw [e] at h ⊢
        exact hr _ _ hf h
      · have e : t.number s = t.rest x.toNat false := by unfold TS.number; rw [if_pos hf, hb]; exact if_neg hs
        rw [e] at h ⊢
        exact hr _ _ hf h
  · unfold TS.number; rw [if_neg hf]

section
variable {pt : Nat} {A : Option Addr} {c : Nat} {t : TS} {w w' : World}
theorem RAct.drewN {w2 : World} (a : RAct w pt A c t w2) (q : Nat) : RAct w pt A c t (w2.drewN q) := a.trans (drew_ract a.tape q)

theorem rmove (h : ReadAt pt A c t w) (p : Nat) (hp : p ≤ t.bytes.length) : RAct w pt A c { t with pos := p } (w.setCell ⟨pt, 1, none⟩ (.int .i64 (p : Int))) := by
  have hfr := Fr.setCell (fun k => k = pt) w (p := ⟨pt, 1, none⟩) (fun _ => rfl) (.int .i64 (p : Int))
  exact ⟨⟨h.obj.set_ 1 _, hfr.rd h.rd (fun b off e _ => h.ne b off e), h.ne, h.cap, h.capm, hp, h.flt, h.spt⟩, hfr⟩

def RStrEnds (w : World) (pt : Nat) (A : Option Addr) (c : Nat) (x : List UInt8 × TS) (r : Ending) (w' : World) : Prop :=
  r = .returned (.string ⟨x.1.toArray⟩) ∧ RAct w pt A c x.2 w'

set_option maxHeartbeats 2000000 in
theorem rtext_any (h : ReadAt pt A c t w) (most : Int) (hm : most ≤ 9223372036854775807) : Calls Try.prog 54 #[.pointer (some ⟨pt, 0, none⟩), .int .i64 most] w (RStrEnds w pt A c (t.str most)) := by
  have HN := Lib.hid (ruint_any h)
  have hlt := number_lt (t := t) false
  have hby := number_stops_le (t := t) false
  have hpos := h.pos
  obtain ⟨c0, c1, c2, c3⟩ := h.cells
  have HI : Hid (t.str most = if (t.number false).2.fault ≠ 0 then ([], (t.number false).2)
    else if (max most 0).toNat < (t.number false).1.1 then ([], (t.number false).2.stops 1 t.pos)
    else if (t.number false).2.bytes.length - (t.number false).2.pos < (t.number false).1.1 then ([], (t.number false).2.stops 3 t.pos)
    else (((t.number false).2.bytes.drop (t.number false).2.pos).take (t.number false).1.1, { (t.number false).2 with pos := (t.number false).2.pos + (t.number false).1.1 })) := rfl
  obtain ⟨n, b, t2, hx⟩ : ∃ n b t2, t.number false = ((n, b), t2) := ⟨_, _, _, rfl⟩
  rw [hx] at HN HI hlt hby
  simp only at hlt hby HN HI
  have hpos2 : t.pos ≤ t2.bytes.length := by rw [hby]; exact hpos
  clear hx hby
  obtain ⟨mx, hmx⟩ : ∃ mx : Nat, (mx : Int) = max most 0 := ⟨(max most 0).toNat, by omega⟩
  have hmx2 : (max most 0).toNat = mx := by omega
  rw [hmx2] at HI
  have hmx9 : mx ≤ 9223372036854775807 := by omega
  have qm : max most 0 = (mx : Int) := hmx.symm
  have qu : IntKind.u64.wrap (mx : Int) = (mx : Int) := by show (mx : Int) % 18446744073709551616 = _; omega
  clear hmx hmx2
  go_enter Try.func54, Try.ntmps54
  go_upto_region 3 with (go_at_call 76; refine HN.out.mono ?_; rintro e w2 ⟨rfl, hA⟩)
  obtain ⟨d0, d1, d2, d3⟩ := hA.tape.cells
  have hp2 := hA.tape.pos
  have hcap2 := hA.tape.cap
  have hcm2 := hA.tape.capm
  clear c0 c1 c2 c3 HN
  by_cases hf : t2.fault ≠ 0
  · rw [if_pos hf] at HI
    have hfb : ((t2.fault : Int) != 0) = true := by simp [hf]
    go_wp2
    go_ret
    rw [HI.out]
    exact ⟨rfl, hA⟩
  · rw [if_neg hf] at HI
    have hf0 : t2.fault = 0 := by omega
    rw [hf0] at d2
    have HF0 := Lib.hid hf0
    clear hf hf0
    by_cases hlong : mx < n
    · rw [if_pos hlong] at HI
      have hdl : decide (mx < n) = true := by simpa using hlong
      go_wp2_with (go_at_call 77; refine (rfail_ok hA.tape 1 t.pos (by omega) hpos2 HF0.out).mono ?_; rintro e w3 ⟨rfl, hA3⟩)
      go_ret
      rw [HI.out]
      exact ⟨rfl, hA.trans hA3⟩
    · rw [if_neg hlong] at HI
      have hdl : decide (mx < n) = false := by simpa using hlong
      have hn9 : n ≤ 9223372036854775807 := by omega
      obtain ⟨rs, hrs, hrs2⟩ : ∃ rs : Nat, (t2.bytes.length : Int) - (t2.pos : Int) = (rs : Int) ∧ t2.bytes.length - t2.pos = rs := ⟨t2.bytes.length - t2.pos, by omega, rfl⟩
      rw [hrs2] at HI
      have q1 : IntKind.i64.wrap ((t2.bytes.length : Int) - (t2.pos : Int)) = (rs : Int) := by rw [hrs]; exact IntWalk.i64_in _ (by omega)
      have q2 : IntKind.u64.wrap (rs : Int) = (rs : Int) := by show (rs : Int) % 18446744073709551616 = _; omega
      by_cases hsh : rs < n
      · rw [if_pos hsh] at HI
        have hds : decide (rs < n) = true := by simpa using hsh
        clear hrs2
        go_wp2
        go_quiet (fail)
        go_wp2_with (go_at_call 77; refine (rfail_ok (hA.drewN _).tape 3 t.pos (by omega) hpos2 HF0.out).mono ?_; rintro e w3 ⟨rfl, hA3⟩)
        go_ret
        rw [HI.out]
        exact ⟨rfl, (hA.drewN _).trans hA3⟩
      · rw [if_neg hsh] at HI
        have hds : decide (rs < n) = false := by simpa using hsh
        obtain ⟨x, hx⟩ : ∃ x, x = (t2.bytes.drop t2.pos).take n := ⟨_, rfl⟩
        rw [← hx] at HI
        have HXL := Lib.hid (show x.length = n by rw [hx]; simp; omega)
        have HX := Lib.hid hx
        obtain ⟨p, hpp, hpi⟩ : ∃ p : Nat, t2.pos + n = p ∧ (t2.pos : Int) + (n : Int) = (p : Int) := ⟨t2.pos + n, rfl, by omega⟩
        have hpl : p ≤ t2.bytes.length := by omega
        have q3 : IntKind.i64.wrap ((t2.pos : Int) + (n : Int)) = (p : Int) := by rw [hpi]; exact IntWalk.i64_in _ (by omega)
        rw [hpp] at HI
        have f1 := hA.tape.obj.frozen 1
        have HMV : Hid (∀ q, RAct w pt A c { t2 with pos := p } ((w2.drewN q).setCell ⟨pt, 1, none⟩ (.int .i64 (p : Int)))) := fun q => (hA.drewN q).trans (rmove (hA.drewN q).tape p hpl)
        clear hx hrs2
        go_wp2
        go_quiet (fail)
        go_upto_region 12 with (fail)
        refine wp_world (fun W => RAct w pt A c { t2 with pos := p } W) (HMV.out _) ?_
        intro w3 hA3
        obtain ⟨e0, e1, e2, e3⟩ := hA3.tape.cells
        simp only at e0 e1
        have q4 : (p : Int) - (n : Int) = (t2.pos : Int) := by omega
        have q5 : IntKind.i64.wrap ((p : Int) - (n : Int)) = (t2.pos : Int) := by rw [q4]; exact IntWalk.i64_in _ (by omega)
        have q6 : (0 : Int) ≤ (t2.pos : Int) := by omega
        have q7 : (t2.pos : Int) ≤ (p : Int) := by omega
        have q8 : (p : Int) ≤ (c : Int) := by omega
        have q9 : p - t2.pos = n := by omega
        have HRP : Rd w3 (A.map fun x => x.add t2.pos) x := by rw [HX.out]; exact rd_part hA3.tape.rd t2.pos n
        have HCV := fun (q cc : Nat) => run_str (P := Try.prog) Try.underlying23 Try.underlying5 Try.underlying9 (w3.drewN q) (A.map fun x => x.add t2.pos) n cc x HXL.out (HRP.below (below_drewN (Below.refl _ _) q))
        clear hrs q1 q2 q3 hpi hpp HMV f1 d0 d1 d2 d3
        by_cases hcp : c = t2.pos
        · have hn0 : n = 0 := by omega
          have HX0 := Lib.hid (show x = [] from List.eq_nil_of_length_eq_zero (by rw [HXL.out]; exact hn0))
          have HCV0 := fun (q cc : Nat) => run_str (P := Try.prog) Try.underlying23 Try.underlying5 Try.underlying9 (w3.drewN q) A n cc [] (by rw [hn0]; rfl) (.inl rfl)
          have HA9 : Hid (∀ q, RAct w pt A t2.pos { t2 with pos := p } (w3.drewN q)) := fun q => by have h9 := hA3.drewN q; rwa [hcp] at h9
          clear HCV HRP hn0
          go_quiet (fail)
          go_wp2
          go_ret
          rw [HI.out, HX0.out]
          exact ⟨rfl, HA9.out _⟩
        · clear HRP
          go_quiet (fail)
          go_wp2
          go_ret
          rw [HI.out]
          exact ⟨rfl, hA3.drewN _⟩
end

set_option maxHeartbeats 600000 in
theorem rnew_any (A : Option Addr) (l : List UInt8) (n c : Nat) (w : World) (hl : l.length = n) (hn : n ≤ 140737488351232) (hr : Rd w A l) :
    Calls Try.prog 53 #[.slice A n c] w fun r w' => ∃ pt B cB, r = .returned (.pointer (some ⟨pt, 0, none⟩)) ∧ ReadAt pt B cB ⟨l, 0, 0, 0⟩ w' ∧ Below w.heap.size w w' ∧ w.heap.size ≤ pt ∧ (∀ b off, B = some ⟨b, off, none⟩ → w.heap.size ≤ b ∧ b < pt) ∧ pt < w'.heap.size := by
  have HL := Lib.hid hl
  have H0 : Hid ((w.alloc (.cells #[] 5)).ownsRow w.heap.size 5 1 (.slice (some ⟨w.heap.size, 0, none⟩) 0 0) 0 [] ∧ Cs (w.alloc (.cells #[] 5)) A (l.map bv)) :=
    ⟨⟨rfl, .inr ⟨w.heap.size, 0, #[], rfl, Nat.le_refl _, heap_alloc_new _ _, Nat.le_refl _, Nat.zero_le _, rfl, rfl⟩⟩, (hr.below (below_alloc _ _)).cs⟩
  have hone := bvs_one l
  have HLM := Lib.hid (show (l.map bv).length = n * 1 by rw [List.length_map, hl]; omega)
  have hmx : 0 + n ≤ maxLen := by simp only [maxLen]; omega
  have hbx : (0 + n) * 1 ≤ 140737488355328 := by omega
  have hbs : w.heap.size ≤ (w.alloc (.cells #[] 5)).heap.size := by simp
  clear hl
  go_enter Try.func53, Try.ntmps53
  go_wp2_with (at_builtin; refine wpList_app bytesT rfl (.tmp 3) (.tmp 4) rfl w.heap.size (.slice (some ⟨w.heap.size, 0, none⟩) 0 0) 0 [] rfl H0.out.1 A n c (l.map bv) rfl HLM.out H0.out.2 hone hmx hbx hbs ?_; intro v' w2 hown hgr _; simp only [Nat.zero_add, List.nil_append] at hown; obtain ⟨B, cB, rfl, hrB, _, hcB⟩ := own_rd hown)
  have hb2 : Below w.heap.size w w2 := (below_alloc w _).grown hgr (by simp) (fun k hk => Nat.le_of_eq (by simpa [Value.ownBlock] using hk))
  go_ret
  have hcm : cB ≤ 9223372036854775807 := by
    rcases hown.2 with ⟨hv, _⟩ | ⟨g, cap, cur, hv, _, _, _, h10, _⟩
    · have := (Value.slice.inj hv).2.2; omega
    · have := (Value.slice.inj hv).2.2; unfold maxLen at h10; omega
  have hBl : ∀ b off, B = some ⟨b, off, none⟩ → w.heap.size ≤ b ∧ b < w2.heap.size := by
    intro b off e
    subst e
    exact World.ownsRow.lt hown b rfl
  refine ⟨w2.heap.size, B, cB, rfl, ⟨?_, hrB.below (below_alloc w2 _), fun b off e => by have := hBl b off e; omega, by rw [HL.out]; exact hcB, hcm, Nat.zero_le _, Nat.zero_le _, Nat.zero_le _⟩, hb2.alloc hb2.size _, hb2.size, hBl, by simp⟩
  have := Blk.new w2 95 #[.slice B n cB, .int .i64 0, .int .i64 0, .int .i64 0]
  show Blk _ _ _ #[.slice B l.length cB, .int .i64 0, .int .i64 0, .int .i64 0]
  rw [HL.out]
  exact this
end
section
open Go.RowKit
set_option linter.unusedVariables false

def rcellsJ (pr : Nat) (J : JV) : Array Value := #[.pointer (some ⟨pr, 0, none⟩), .int .i64 (J.from_ : Int), .int .i64 (J.len : Int), .int .i64 (J.epoch : Int), .int .i64 (J.life : Int), .string ⟨J.stream.toArray⟩, .int .i64 (J.safe : Int), .int .i64 (J.records : Int), .bool J.broken]
/-- The blocks of the document's journal and its disk. -/
def RF (pk pr : Nat) (q : RPl) (k : Nat) : Prop := q.F pr k ∨ k = pk
structure RZ (pk pr : Nat) (q : RPl) (J : JV) (R : RS) (w : World) : Prop where
  obj : Blk w pk 66 (rcellsJ pr J)
  ref : RefAt pr q R w
  sep : ¬ q.F pr pk
/-- What an act of it leaves. -/
structure RZA (w : World) (pk pr : Nat) (q : RPl) (J' : JV) (D' : DS) (w' : World) (R' : RS) (q' : RPl) : Prop where
  rz : RZ pk pr q' J' R' w'
  sim : Sim D' R'
  fr : Fr (RF pk pr q) w w'
  grown : ∀ k, RF pk pr q' k → RF pk pr q k ∨ w.heap.size ≤ k
section
variable {w w' V : World} {pk pr : Nat} {q q' : RPl} {J J' : JV} {R R' : RS} {D D' : DS}
theorem RZ.keep (h : RZ pk pr q J R w) (hb : Below w.heap.size w w') : RZ pk pr q J R w' := ⟨h.obj.keep hb, h.ref.keep hb, h.sep⟩
theorem RZ.drewN (h : RZ pk pr q J R w) (n : Nat) : RZ pk pr q J R (w.drewN n) := h.keep (below_drewN (Below.refl _ _) n)
theorem RZ.far {F : Nat → Prop} (h : RZ pk pr q J R w) (hf : Fr F w w') (hd : ∀ k, RF pk pr q k → ¬ F k) : RZ pk pr q J R w' := ⟨hf.blk h.obj (hd _ (.inr rfl)), h.ref.far hf (fun k hk => hd k (.inl hk)), h.sep⟩
theorem RZ.lt (h : RZ pk pr q J R w) {k : Nat} (hk : RF pk pr q k) : k < w.heap.size := by
  rcases hk with hk | rfl
  · exact h.ref.lt k hk
  · exact h.obj.lt
theorem RZ.set_ (h : RZ pk pr q J R w) (i : Nat) (u : Value) (hc : (rcellsJ pr J).setIfInBounds i u = rcellsJ pr J') : RZ pk pr q J' R (w.setCell ⟨pk, i, none⟩ u) := by
  have hf := Fr.setCell (fun k => k = pk) w (p := ⟨pk, i, none⟩) (fun _ => rfl) u
  have hobj := h.obj.set_ i u
  rw [hc] at hobj
  exact ⟨hobj, h.ref.far hf (fun k hk e => h.sep (e ▸ hk)), h.sep⟩
theorem RZA.quiet (h : RZ pk pr q J R w) (hS : Sim D R) (hb : Below w.heap.size w w') : RZA w pk pr q J D w' R q := ⟨h.keep hb, hS, Fr.of_below hb _, fun k hk => .inl hk⟩
theorem RZA.trans {w'' : World} {J'' : JV} {D'' : DS} {R'' : RS} {q'' : RPl} (a : RZA w pk pr q J' D' w' R' q') (b : RZA w' pk pr q' J'' D'' w'' R'' q'') : RZA w pk pr q J'' D'' w'' R'' q'' := by
  have hs := a.fr.size
  refine ⟨b.rz, b.sim, a.fr.trans b.fr (fun i hi g => ?_), fun k hk => ?_⟩
  · rcases a.grown i g with h9 | h9
    · exact h9
    · omega
  · rcases b.grown k hk with h9 | h9
    · exact a.grown k h9
    · exact .inr (by omega)
theorem RZA.set_ {J'' : JV} (a : RZA w pk pr q J' D' w' R' q') (i : Nat) (u : Value) (hc : (rcellsJ pr J').setIfInBounds i u = rcellsJ pr J'') : RZA w pk pr q J'' D' (w'.setCell ⟨pk, i, none⟩ u) R' q' := by
  have hf := Fr.setCell (fun k => k = pk) w' (p := ⟨pk, i, none⟩) (fun _ => rfl) u
  refine ⟨a.rz.set_ i u hc, a.sim, a.fr.trans hf (fun k hk e => .inr e), a.grown⟩
/-- Its disk acts. -/
theorem RZA.disk (h : RZ pk pr q J R w) (hS : Sim D' R') (a : RActs w pr q R' w' q') : RZA w pk pr q J D' w' R' q' := by
  refine ⟨⟨a.fr.blk h.obj h.sep, a.ref, fun hk => ?_⟩, hS, a.fr.weak (fun k _ hk => .inl hk), fun k hk => ?_⟩
  · rcases a.grown pk hk with h9 | h9
    · exact h.sep h9
    · have := h.obj.lt; omega
  · rcases hk with hk | hk
    · rcases a.grown k hk with h9 | h9
      · exact .inl (.inl h9)
      · exact .inr h9
    · exact .inl (.inr hk)
set_option maxHeartbeats 400000 in
theorem rnumber_any (e l i : Nat) (w : World) (he : e ≤ 16777215) (hl : l ≤ 1048575) (hi : i ≤ 16384) :
    Calls Try.prog 27 #[.int .i64 (e : Int), .int .i64 (l : Int), .int .i64 (i : Int)] w fun r w' => r = .returned (.int .u64 (jnum e l i : Int)) ∧ w = w' := by
  have HN := Lib.hid (show ((jnum e l i : Nat) : Int) = (e : Int) * 1099511627776 + (l : Int) * 1048576 + (i : Int) by unfold jnum; omega)
  have q1 : IntKind.u64.wrap (e : Int) = (e : Int) := by show (e : Int) % 18446744073709551616 = _; omega
  have q2 : IntKind.u64.wrap (l : Int) = (l : Int) := by show (l : Int) % 18446744073709551616 = _; omega
  have q3 : IntKind.u64.wrap (i : Int) = (i : Int) := by show (i : Int) % 18446744073709551616 = _; omega
  go_enter Try.func27, Try.ntmps27
  go_wp2
  go_ret
  rw [HN.out]
  exact ⟨rfl, rfl⟩
/-- room, of any place. -/
theorem rroomD (hS : Sim D R) (V : World) : Calls Try.prog 14 #[.int .i64 (R.size : Int)] V fun e w' => e = .returned (.int .i64 ((D.size - 15 : Nat) : Int)) ∧ V = w' := by
  have h1 := hS.dok.s1
  have h2 := hS.dok.s2
  refine (rroom_any _ V).mono fun e w' ⟨he, hw⟩ => ⟨?_, hw⟩
  rw [he, hS.size, room_is h1 h2]
  congr 2
  omega
set_option maxHeartbeats 400000 in
theorem rcap_any (h : RZ pk pr q J R w) (hS : Sim D R) (hj : J.len ≤ 16384) : Calls Try.prog 56 #[.pointer (some ⟨pk, 0, none⟩)] w fun e w' => e = .returned (.int .i64 ((J.len * (D.size - 15) : Nat) : Int)) ∧ ∃ n, w' = w.drewN n := by
  have c0 : w.cell? ⟨pk, 0, none⟩ = some (.pointer (some ⟨pr, 0, none⟩)) := h.obj.cell 0
  have c2 : w.cell? ⟨pk, 2, none⟩ = some (.int .i64 (J.len : Int)) := h.obj.cell 2
  have r1 : w.cell? ⟨pr, 1, none⟩ = some (.int .i64 (R.size : Int)) := h.ref.obj.cell 1
  have HRM := Lib.hid (fun V => rroomD hS V)
  have h1 := hS.dok.s1
  have h2 := hS.dok.s2
  obtain ⟨rm, hrm⟩ : ∃ rm, D.size - 15 = rm := ⟨_, rfl⟩
  rw [hrm] at HRM ⊢
  have hb : J.len * rm ≤ 16384 * 4096 := Nat.mul_le_mul hj (by omega)
  have hb2 : (J.len : Int) * (rm : Int) ≤ 67108864 := by
    have h9 : ((J.len * rm : Nat) : Int) ≤ ((67108864 : Nat) : Int) := Int.ofNat_le.2 hb
    rw [Int.natCast_mul] at h9
    exact h9
  have hb3 : (0 : Int) ≤ (J.len : Int) * (rm : Int) := Int.mul_nonneg (by omega) (by omega)
  have q1 : IntKind.i64.wrap ((J.len : Int) * (rm : Int)) = (J.len : Int) * (rm : Int) := IntWalk.i64_in _ (by omega)
  clear h hS hrm hb
  go_enter Try.func56, Try.ntmps56
  go_wp2
  go_quiet ((go_at_call 14; exact Calls.quiet_of_same ((HRM.out _).mono fun e w' ⟨he, hw⟩ => ⟨he, hw.symm⟩)))
  go_wp2
  go_ret
  exact ⟨by push_cast; rfl, _, rfl⟩
set_option maxHeartbeats 800000 in
theorem rbegin_any (h : RZ pk pr q J R w) (hS : Sim D R) (e : Int) : Calls Try.prog 36 #[.pointer (some ⟨pk, 0, none⟩), .int .i64 e] w fun r w' => r = .returned (.int .i64 ((J.begin e).1 : Int)) ∧ RZA w pk pr q (J.begin e).2 D w' R q := by
  have c3 : w.cell? ⟨pk, 3, none⟩ = some (.int .i64 (J.epoch : Int)) := h.obj.cell 3
  by_cases h1 : e ≤ J.epoch
  · have HF := Lib.hid (show J.begin e = (2, J) by unfold JV.begin; rw [if_pos (.inl h1)])
    have d1 : decide (e ≤ (J.epoch : Int)) = true := by simpa using h1
    have HZ := Lib.hid (RZA.quiet h hS (Below.refl _ _))
    clear h1 h
    go_enter Try.func36, Try.ntmps36
    go_wp2
    go_ret
    rw [HF.out]
    exact ⟨rfl, HZ.out⟩
  have d1 : decide (e ≤ (J.epoch : Int)) = false := by simpa using h1
  by_cases h2 : 16777215 < e
  · have HF := Lib.hid (show J.begin e = (2, J) by unfold JV.begin; rw [if_pos (.inr h2)])
    have d2 : decide (16777215 < e) = true := by simpa using h2
    have HZ := Lib.hid (RZA.quiet h hS (Below.refl _ _))
    clear h1 h2 h
    go_enter Try.func36, Try.ntmps36
    go_wp2
    go_ret
    rw [HF.out]
    exact ⟨rfl, HZ.out⟩
  have d2 : decide (16777215 < e) = false := by simpa using h2
  clear d1
  obtain ⟨n, rfl⟩ := Int.eq_ofNat_of_zero_le (show 0 ≤ e by omega)
  have HF := Lib.hid (show J.begin (n : Int) = (0, ⟨J.from_, J.len, n, 1, [], 0, 0, false⟩) by unfold JV.begin; rw [if_neg (by omega)]; rfl)
  have d1 : decide (n ≤ J.epoch) = false := by simp; omega
  have HZ := Lib.hid (RZA.quiet h hS (Below.refl _ _))
  clear h1 h2 h
  go_enter Try.func36, Try.ntmps36
  have cf3 := HZ.out.rz.obj.frozen 3
  have cf4 := HZ.out.rz.obj.frozen 4
  have cf5 := HZ.out.rz.obj.frozen 5
  have cf6 := HZ.out.rz.obj.frozen 6
  have cf7 := HZ.out.rz.obj.frozen 7
  have cf8 := HZ.out.rz.obj.frozen 8
  have c4 : w.cell? ⟨pk, 4, none⟩ = some (.int .i64 (J.life : Int)) := HZ.out.rz.obj.cell 4
  have c5 : w.cell? ⟨pk, 5, none⟩ = some (.string ⟨J.stream.toArray⟩) := HZ.out.rz.obj.cell 5
  have c6 : w.cell? ⟨pk, 6, none⟩ = some (.int .i64 (J.safe : Int)) := HZ.out.rz.obj.cell 6
  have c7 : w.cell? ⟨pk, 7, none⟩ = some (.int .i64 (J.records : Int)) := HZ.out.rz.obj.cell 7
  have c8 : w.cell? ⟨pk, 8, none⟩ = some (.bool J.broken) := HZ.out.rz.obj.cell 8
  go_wp2
  go_ret
  rw [HF.out]
  exact ⟨rfl, (((((HZ.out.set_ (J'' := { J with epoch := n }) 3 (.int .i64 (n : Int)) rfl).set_ (J'' := { J with epoch := n, life := 1 }) 4 (.int .i64 1) rfl).set_ (J'' := { J with epoch := n, life := 1, stream := [] }) 5 (.string ⟨#[]⟩) rfl).set_ (J'' := { J with epoch := n, life := 1, stream := [], safe := 0 }) 6 (.int .i64 0) rfl).set_ (J'' := { J with epoch := n, life := 1, stream := [], safe := 0, records := 0 }) 7 (.int .i64 0) rfl).set_ (J'' := ⟨J.from_, J.len, n, 1, [], 0, 0, false⟩) 8 (.bool false) rfl⟩
end
end
end Go.Proofs.Ytcnhfbckaacalaa
