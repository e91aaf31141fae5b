/- The walks of counted, Clip, Num, Int, Str of layer 1. -/
import Derived.Test.YtefnjplfemgibaaProg
import Derived.Test.YtefnjplfemgibaaSpA
import Derived.Test.YtefnjplfemgibaaRdK
import Derived.Test.YtefnjplfemgibaaLibA
import Derived.Test.YtefnjplfemgibaaShelf
import Derived.ArgAppend
import Derived.Lib.AppendStr
import Derived.IntWalk
import Derived.Outline
import Derived.Deep.Cut
import Derived.Deep.DeepMust
namespace Go.Proofs.Ytefnjplfemgibaa
open Go.RowKit
set_option linter.unusedVariables false

/-- Bytes that append may go on: a row of the call's own from block base on, or one without room behind it. -/
def Ga (w : World) (base : Nat) (v : Value) (l : List UInt8) : Prop :=
  w.ownsRow base 5 1 v l.length (l.map bv) ∨ ∃ A, v = .slice A l.length l.length ∧ Rd w A l
theorem ownsRow_base {w : World} {base b' e size : Nat} {v : Value} {n : Nat} {xs : List Value} (h : w.ownsRow base e size v n xs) (hb : b' ≤ base) : w.ownsRow b' e size v n xs := by
  refine ⟨h.1, ?_⟩
  rcases h.2 with h1 | ⟨g, cap, cur, hv, h2, h3⟩
  · exact .inl h1
  · exact .inr ⟨g, cap, cur, hv, Nat.le_trans hb h2, h3⟩
theorem ownsRow_keep {w w' : World} {base e size : Nat} {v : Value} {n : Nat} {xs : List Value} (h : w.ownsRow base e size v n xs) (hb : Below w.heap.size w w') : w'.ownsRow base e size v n xs :=
  h.kept (grown_of_below hb none) (by cases v.ownBlock <;> simp)
theorem Ga.rd {w : World} {base : Nat} {v : Value} {l : List UInt8} (h : Ga w base v l) : ∃ A c, v = .slice A l.length c ∧ Rd w A l ∧ l.length ≤ c := by
  rcases h with h | ⟨A, hv, hr⟩
  · obtain ⟨A, c, hv, hr, _, hc⟩ := own_rd h
    exact ⟨A, c, hv, hr, hc⟩
  · exact ⟨A, _, hv, hr, Nat.le_refl _⟩

set_option maxRecDepth 100000 in
/-- append of some bytes onto such. -/
theorem wpList_ga {w : World} {ops : Array Oper} {rest : List Oper} {o : Oper} {a : Act} {Q : Exit → Act → World → Prop} (hgd : o.guard = none) (s x : Operand)
    (ho : o.op = .call { callee := .builtin .append, args := #[s, x], argTypes := #[51, 51] }) (base : Nat) (v : Value) (l : List UInt8) (hs : a.eval s = v) (hga : Ga w base v l)
    (ad : Addr) (m c : Nat) (news : List UInt8) (hx : a.eval x = .slice (some ad) m c) (hl : news.length = m) (hm : 0 < m) (hnews : Cs w (some ad) (news.map bv)) (hbytes : l.length + m ≤ 140737488355328) (hbase : base ≤ w.heap.size)
    (h : ∀ v' w', w'.ownsRow base 5 1 v' (l.length + m) ((l ++ news).map bv) → Below base w w' → wpList Try.prog ops Q rest (a.put o.dst v') w') :
    wpList Try.prog ops Q (o :: rest) a w := by
  subst hl
  rcases hga with hown | ⟨A, rfl, hr⟩
  · refine wpList_app bytesT hgd s x ho base v l.length (l.map bv) hs hown (some ad) news.length c (news.map bv) hx (by simp) hnews (bvs_one _) (by unfold maxLen; omega) (by omega) hbase ?_
    intro v' w' hown' hgr _
    rw [← List.map_append] at hown'
    exact h v' w' hown' ((Below.refl _ _).grown hgr hbase (fun k hk => (hown.lt k hk).1))
  · obtain ⟨i, hi, hz, hsz, hby⟩ := info_parts bytesT.info
    have hc : ∀ j u, (news.map bv)[j]? = some u → w.cell? (ad.add j) = some u := by
      rcases hnews with h0 | ⟨ad', h1, hh⟩
      · intro j u hu; rw [h0] at hu; simp at hu
      · injection h1 with h1; subst h1; exact hh
    refine wpList_append_grows w hgd s x 51 ho 5 i (.int .u8 0) 1 1 bytesT.ht hi hz hsz hby rfl (by omega) A l.length l.length (l.map bv) hs (fun hA => ?_) (by simp) (fun b hb j u hu => ?_) ad news.length c (news.map bv) hx (by simp) hc (bvs_one _) (by omega) (by unfold maxLen; omega) (by omega) ?_
    · subst hA
      rcases hr with h0 | ⟨_, _, h0, _⟩
      · subst h0; exact ⟨rfl, rfl⟩
      · cases h0
    · rcases hr with h0 | ⟨g, off, hA, hh⟩
      · subst h0; simp at hu
      · rw [hb] at hA
        injection hA with hA
        subst hA
        rw [List.getElem?_map] at hu
        obtain ⟨c', hc', rfl⟩ := Option.map_eq_some_iff.1 hu
        obtain ⟨hj, rfl⟩ := List.getElem?_eq_some_iff.1 hc'
        rw [Addr.add_lit]
        exact hh j hj
    · intro v' w' hown' hgr
      rw [← List.map_append] at hown'
      exact h v' w' (ownsRow_base hown' hbase) ((Below.refl _ _).grown hgr hbase (fun k hk => by cases hk))

theorem cs_one_byte (w : World) (x : Int) (c : UInt8) (h : Value.int .u8 x = bv c) : Cs (w.alloc (.cells #[.int .u8 x] 5)) (some ⟨w.heap.size, 0, none⟩) ([c].map bv) := by
  rw [h]
  exact .inr ⟨_, rfl, cell_one_new w (bv c) 5⟩

theorem len64_any (n : Nat) (w : World) (hn : n < 18446744073709551616) : Calls Try.prog 97 #[.int .u64 n] w fun e w' => e = .returned (.int .i64 (Lib.bitLen n)) ∧ w = w' :=
  (Try.bits_Len64 (n : Int) w (by omega) (by omega)).mono fun e w' ⟨he, hw⟩ => ⟨by rw [he, Int.toNat_natCast], hw.symm⟩
theorem or_flag : ∀ (k : Fin 9) (f : Fin 2), bits BinOp.or IntKind.u8 (k.val : Int) ((f.val * 128 : Nat) : Int) = ((k.val + f.val * 128 : Nat) : Int) := by decide +kernel
theorem or_flag' {k fl : Nat} (hk : k ≤ 8) (hf : fl = 0 ∨ fl = 128) : bits BinOp.or IntKind.u8 (k : Int) (fl : Int) = ((k + fl : Nat) : Int) := by
  rcases hf with rfl | rfl
  · exact or_flag ⟨k, by omega⟩ ⟨0, by omega⟩
  · exact or_flag ⟨k, by omega⟩ ⟨1, by omega⟩

theorem shr_byte (n k : Nat) : Value.int .u8 ((n : Int) / 2 ^ (8 * k) % 256) = bv (UInt8.ofNat (n / 256 ^ k)) := by
  have e : ((2 : Int) ^ (8 * k)) = ((256 ^ k : Nat) : Int) := by
    have h1 : (256 : Nat) ^ k = 2 ^ (8 * k) := by rw [Nat.pow_mul]
    rw [h1, Int.natCast_pow]
    rfl
  rw [e, ← Int.natCast_ediv, bv_ofNat]

set_option maxHeartbeats 1000000 in
theorem counted_any (v : Value) (l : List UInt8) (n fl : Nat) (w : World) (base : Nat) (hga : Ga w base v l) (hbase : base ≤ w.heap.size) (hn : n < 18446744073709551616) (hf : fl = 0 ∨ fl = 128) (hl : l.length + 9 ≤ 140737488355328) :
    Calls Try.prog 77 #[v, .int .u64 n, .int .u8 fl] w fun e w' => ∃ v', e = .returned v' ∧ w'.ownsRow base 5 1 v' (l ++ laidB n fl).length ((l ++ laidB n fl).map bv) ∧ Below base w w' := by
  have hw8 := wid_le n
  have HB := Lib.hid (wid_bits n hn)
  have hb64 : Lib.bitLen n ≤ 64 := Lib.bitLen_le n 64 (by omega) (by omega)
  obtain ⟨A, cA, rfl, _, _⟩ := hga.rd
  have HL64 := Lib.hid (len64_any n w hn)
  have hwb : ((Lib.bitLen n : Int) + 7) / 8 = (wid n : Int) := by have := HB.out; omega
  have HOR := Lib.hid (or_flag' hw8 hf)
  have hfl : fl ≤ 128 := by omega
  have HLA : Hid (laidB n fl = UInt8.ofNat (wid n + fl) :: be (wid n) n) := rfl
  generalize Lib.bitLen n = bl at *
  have HWB := Lib.hid hwb
  have HBL := Lib.hid (be_length (wid n) n)
  have HBT := Lib.hid (be_take_succ (wid n) n)
  clear hwb hf
  go_enter Try.func77, Try.ntmps77
  go_upto_region 2 with (go_at_call 97; refine HL64.out.mono ?_; rintro e w' ⟨rfl, rfl⟩)
  rw [HWB.out]
  generalize wid n = wd at *
  clear HWB HB HL64
  obtain ⟨hd, hhd⟩ : ∃ hd, hd = wd + fl := ⟨_, rfl⟩
  rw [← hhd] at HOR HLA
  have hd8 : hd ≤ 136 := by omega
  clear hhd
  have hor := HOR.out
  have HCS := Lib.hid (cs_one_byte w (hd : Int) (UInt8.ofNat hd) (by simp [bv]; omega))
  have HGA := Lib.hid (show Ga (w.alloc (.cells #[.int .u8 (hd : Int)] 5)) base (.slice A l.length cA) l from by
    rcases hga with h | ⟨A', hv, hr⟩
    · exact .inl (ownsRow_keep h (below_alloc w _))
    · exact .inr ⟨A', hv, hr.below (below_alloc w _)⟩)
  have hbs : base ≤ (w.alloc (.cells #[.int .u8 (hd : Int)] 5)).heap.size := by simp; omega
  have hbl : l.length + 1 ≤ 140737488355328 := by omega
  have HBA := Lib.hid ((Below.refl base w).alloc hbase (.cells #[.int .u8 (hd : Int)] 5))
  go_upto_region 3 with (at_builtin; refine wpList_ga rfl (.tmp 13) (.tmp 18) rfl base _ l rfl HGA.out ⟨w.heap.size, 0, none⟩ 1 1 [UInt8.ofNat hd] rfl rfl (by omega) HCS.out hbl hbs ?_; intro v1 w1 hown1 hb1)
  have hb1' := HBA.out.trans hb1
  clear HGA HCS hor HOR hga hb1 HBA hbs hbl
  go_wp2
  go_loopw [0, 8] (fun v sh wr => ∃ i : Nat, i ≤ wd ∧ sh = .int .i64 (8 * ((wd : Int) - (i : Int) - 1)) ∧ wr.ownsRow base 5 1 v (l.length + 1 + i) ((l ++ [UInt8.ofNat hd] ++ (be wd n).take i).map bv) ∧ Below base w wr) (fun _ sh _ => (intOf sh + 8).toNat)
  case atStart => exact ⟨0, Nat.zero_le _, by simp, by simpa using hown1, hb1'⟩
  case round =>
    obtain ⟨i, hi, rfl, hown, hb⟩ := hrel
    clear hown1 hb1'
    have hbz : base ≤ wr.heap.size := Nat.le_trans hbase hb.size
    by_cases hlt : i < wd
    · obtain ⟨s, hs, hs2⟩ : ∃ s : Nat, 8 * ((wd : Int) - (i : Int) - 1) = (s : Int) ∧ s = 8 * (wd - 1 - i) := ⟨8 * (wd - 1 - i), by omega, rfl⟩
      have HS2 := Lib.hid hs2
      have hs64 : s < 64 := by omega
      rw [hs]
      have HS := Lib.hid hs
      clear hs hs2
      have HBY := Lib.hid (show Value.int .u8 ((n : Int) / 2 ^ s % 256) = bv (UInt8.ofNat (n / 256 ^ (wd - 1 - i))) by
        rw [HS2.out]
        exact shr_byte n _)
      have HCS := Lib.hid (cs_one_byte wr _ _ HBY.out)
      have HOW := Lib.hid (ownsRow_keep hown (below_alloc wr (.cells #[.int .u8 ((n : Int) / 2 ^ s % 256)] 5)))
      have hbs : base ≤ (wr.alloc (.cells #[.int .u8 ((n : Int) / 2 ^ s % 256)] 5)).heap.size := by simp; omega
      have hmx : l.length + 1 + i + 1 ≤ maxLen := by unfold maxLen; omega
      have hbx : (l.length + 1 + i + 1) * 1 ≤ 140737488355328 := by omega
      have hone := bvs_one [UInt8.ofNat (n / 256 ^ (wd - 1 - i))]
      have HX := Lib.hid (show (l ++ [UInt8.ofNat hd] ++ (be wd n).take i).map bv ++ [UInt8.ofNat (n / 256 ^ (wd - 1 - i))].map bv = (l ++ [UInt8.ofNat hd] ++ (be wd n).take (i + 1)).map bv by
        rw [HBT.out i hlt]
        simp only [List.map_append, List.append_assoc])
      have HBA := Lib.hid (hb.alloc hbz (.cells #[.int .u8 ((n : Int) / 2 ^ s % 256)] 5))
      go_upto_region 5 with (at_builtin; refine wpList_app bytesT rfl (.tmp 27) (.tmp 32) rfl base _ (l.length + 1 + i) _ rfl HOW.out (some ⟨wr.heap.size, 0, none⟩) 1 1 ([UInt8.ofNat (n / 256 ^ (wd - 1 - i))].map bv) rfl rfl HCS.out hone hmx hbx hbs ?_; intro v2 w2 hown2 hgr2 _; rw [HX.out] at hown2)
      have hb2 : Below base w w2 := HBA.out.grown hgr2 hbs (fun k hk => (HOW.out.lt k hk).1)
      clear HCS HOW HX HBA hgr2 hown HBY
      go_wp2
      go_roundw
      case rel => exact ⟨i + 1, by omega, by have := HS.out; congr 1; omega, hown2, hb2⟩
      case measure => simp [intOf]; have := HS.out; omega
    · have hs : 8 * ((wd : Int) - (i : Int) - 1) < 0 := by omega
      obtain rfl : i = wd := by omega
      go_wp2
      go_ret
      refine ⟨_, rfl, ?_, hb⟩
      have h9 := hown
      rw [List.take_of_length_le (by rw [HBL.out]; exact Nat.le_refl _)] at h9
      have e1 : (l ++ laidB n fl).length = l.length + 1 + i := by rw [HLA.out]; simp [HBL.out]; omega
      rw [e1, HLA.out]
      simpa using h9

theorem counted_0 (v : Value) (l : List UInt8) (n : Nat) (w : World) (base : Nat) (hga : Ga w base v l) (hbase : base ≤ w.heap.size) (hn : n < 18446744073709551616) (hl : l.length + 9 ≤ 140737488355328) :
    Calls Try.prog 77 #[v, .int .u64 n, .int .u8 0] w fun e w' => ∃ v', e = .returned v' ∧ w'.ownsRow base 5 1 v' (l ++ laidB n 0).length ((l ++ laidB n 0).map bv) ∧ Below base w w' :=
  counted_any v l n 0 w base hga hbase hn (.inl rfl) hl
theorem counted_128 (v : Value) (l : List UInt8) (n : Nat) (w : World) (base : Nat) (hga : Ga w base v l) (hbase : base ≤ w.heap.size) (hn : n < 18446744073709551616) (hl : l.length + 9 ≤ 140737488355328) :
    Calls Try.prog 77 #[v, .int .u64 n, .int .u8 128] w fun e w' => ∃ v', e = .returned v' ∧ w'.ownsRow base 5 1 v' (l ++ laidB n 128).length ((l ++ laidB n 128).map bv) ∧ Below base w w' :=
  counted_any v l n 128 w base hga hbase hn (.inr rfl) hl

/-- Numbers laid one behind the other. -/
def laidL (ns : List Nat) : List UInt8 := ns.flatMap (fun n => laidB n 0)
theorem laidL_snoc (ns : List Nat) (n : Nat) : laidL (ns ++ [n]) = laidL ns ++ laidB n 0 := by simp [laidL]
theorem laidL_len (ns : List Nat) : (laidL ns).length ≤ 9 * ns.length := by
  induction ns with
  | nil => simp [laidL]
  | cons n r ih =>
    have h1 := laidB_len n 0
    have h2 := wid_le n
    show (laidB n 0 ++ laidL r).length ≤ _
    simp only [List.length_append, List.length_cons]
    omega

set_option maxHeartbeats 400000 in
theorem clip_any (A : Option Addr) (n c : Nat) (w : World) (hnc : n ≤ c) (hc : c ≤ 9223372036854775807) :
    Calls Try.prog 76 #[.slice A n c] w fun e w' => e = .returned (.slice A n n) ∧ w = w' := by
  have q1 : (0 : Int) ≤ (n : Int) := by omega
  have q2 : (n : Int) ≤ (c : Int) := by omega
  go_enter Try.func76, Try.ntmps76
  go_wp2
  go_ret
  exact ⟨rfl, rfl⟩

theorem Ga.of_rd {w : World} {A : Option Addr} {l : List UInt8} (h : Rd w A l) (base : Nat) : Ga w base (.slice A l.length l.length) l := .inr ⟨A, rfl, h⟩

set_option maxHeartbeats 1000000 in
/-- Num. -/
theorem num_lay (A B : Option Addr) (l0 : List UInt8) (ns : List Nat) (n c m c' : Nat) (w : World) (hl : l0.length = n) (hm : ns.length = m) (hnc : n ≤ c) (hc : c ≤ 9223372036854775807) (hr : Rd w A l0) (hk : RdK .u64 w B (ns.map (fun (x : Nat) => (x : Int)))) (hb : ∀ x ∈ ns, x < 18446744073709551616) (hsz : n + 9 * m ≤ 140737488355328) :
    Calls Try.prog 39 #[.slice A n c, .slice B m c'] w fun e w' => ∃ v, e = .returned v ∧ Ga w' w.heap.size v (l0 ++ laidL ns) ∧ Below w.heap.size w w' := by
  subst hl
  have HM := Lib.hid hm
  have HB := Lib.hid hb
  have HCl := Lib.hid (clip_any A l0.length c w hnc hc)
  clear hm hb
  go_enter Try.func39, Try.ntmps39
  go_wp2_with (go_at_call 76; refine HCl.out.mono ?_; rintro e w' ⟨rfl, rfl⟩)
  go_loopw [0, 11] (fun v i wr => ∃ k : Nat, k ≤ m ∧ i = .int .i64 k ∧ Ga wr w.heap.size v (l0 ++ laidL (ns.take k)) ∧ Below w.heap.size w wr) (fun _ i _ => m - (intOf i).toNat)
  case atStart => exact ⟨0, Nat.zero_le _, rfl, by simpa [laidL] using Ga.of_rd hr w.heap.size, Below.refl _ _⟩
  case round =>
    obtain ⟨k, hkm, rfl, hga, hbw⟩ := hrel
    by_cases hlt : k < m
    · have hkl : k < ns.length := by rw [HM.out]; exact hlt
      obtain ⟨b, off, rfl, hcell⟩ := (hk.below hbw).at_ (k := k) (by simpa using hkl)
      rw [List.getElem_map] at hcell
      have hx := HB.out _ (List.getElem_mem hkl)
      have HT := Lib.hid (show laidL (ns.take (k + 1)) = laidL (ns.take k) ++ laidB ns[k] 0 by rw [List.take_succ_eq_append_getElem hkl, laidL_snoc])
      generalize ns[k] = x at *
      have hln := laidL_len (ns.take k)
      rw [List.length_take] at hln
      have hll : (l0 ++ laidL (ns.take k)).length + 9 ≤ 140737488355328 := by rw [List.length_append]; omega
      obtain ⟨L, hL⟩ : ∃ L, L = l0 ++ laidL (ns.take k) := ⟨_, rfl⟩
      rw [← hL] at hga hll
      have HT2 := Lib.hid (show l0 ++ laidL (ns.take (k + 1)) = L ++ laidB x 0 by rw [HT.out, hL, List.append_assoc])
      clear hL HT hln
      obtain ⟨A2, cA2, hv, _, _⟩ := hga.rd
      subst hv
      have HC := Lib.hid (counted_0 _ _ x wr w.heap.size hga hbw.size hx hll)
      have hd1 : decide (k < m) = true := by simp; omega
      go_wp2_with (go_at_call 77; refine HC.out.mono ?_; rintro e w2 ⟨v2, rfl, hown2, hb2⟩)
      go_roundw
      case rel => exact ⟨k + 1, by omega, by go_num, .inl (by rw [HT2.out]; exact hown2), hbw.trans hb2⟩
      case measure => simp [intOf]; omega
    · have hd1 : decide (k < m) = false := by simp; omega
      obtain rfl : k = m := by omega
      go_wp2
      go_ret
      refine ⟨_, rfl, ?_, hbw⟩
      rw [List.take_of_length_le (by rw [HM.out]; exact Nat.le_refl _)] at hga
      exact hga
end Go.Proofs.Ytefnjplfemgibaa
