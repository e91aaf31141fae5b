/- The walks of the document's laid, Uint, Int, Text of layer 1, onto a row of the call's own: what else lies there stays. -/
import Derived.Test.YtommadcjemljcaaRefP
namespace Go.Proofs.Ytommadcjemljcaa
open Go.RowKit
set_option linter.unusedVariables false

/-- Of what was there only the row of v may have turned; the row of v' is that one or a new one. -/
structure Grow (w w' : World) (v v' : Value) : Prop where
  gr : w.grownBy w' v.ownBlock
  own : v'.ownBlock = v.ownBlock ∨ ∃ g, v'.ownBlock = some g ∧ w.heap.size ≤ g
theorem Grow.refl (w : World) (v : Value) : Grow w w v v := ⟨grown_refl _ _, .inl rfl⟩
theorem Grow.trans {w w' w'' : World} {v v' v'' : Value} (h : Grow w w' v v') (k : Grow w' w'' v' v'') : Grow w w'' v v'' := by
  refine ⟨⟨k.gr.os.trans h.gr.os, k.gr.tape.trans h.gr.tape, k.gr.output.trans h.gr.output, Nat.le_trans h.gr.size k.gr.size, fun i hi hn => ?_⟩, ?_⟩
  · refine (k.gr.block i (Nat.lt_of_lt_of_le hi h.gr.size) (fun e => ?_)).trans (h.gr.block i hi hn)
    rcases h.own with h1 | ⟨g, h1, h2⟩
    · exact hn (e.trans h1)
    · rw [h1] at e
      injection e with e
      omega
  · rcases k.own with k1 | ⟨g, k1, k2⟩
    · rcases h.own with h1 | ⟨g, h1, h2⟩
      · exact .inl (k1.trans h1)
      · exact .inr ⟨g, k1.trans h1, h2⟩
    · exact .inr ⟨g, k1, Nat.le_trans h.gr.size k2⟩
theorem Grow.alloc {w w' : World} {v v' : Value} (h : Grow w w' v v') (o : Obj) : Grow w (w'.alloc o) v v' := by
  have hb := below_alloc w' o
  exact ⟨⟨hb.os.trans h.gr.os, hb.tape.trans h.gr.tape, hb.output.trans h.gr.output, Nat.le_trans h.gr.size hb.size, fun i hi hn => (hb.block i (Nat.lt_of_lt_of_le hi h.gr.size)).trans (h.gr.block i hi hn)⟩, h.own⟩
theorem Grow.of {w w' : World} {v v' : Value} (h : w.grownBy w' v.ownBlock) (k : v'.ownBlock = v.ownBlock ∨ v'.ownBlock = some w.heap.size) : Grow w w' v v' :=
  ⟨h, k.imp id (fun k => ⟨_, k, Nat.le_refl _⟩)⟩
theorem Grow.below {w w' : World} {v v' : Value} {base e size n : Nat} {xs : List Value} (h : Grow w w' v v') (hb : base ≤ w.heap.size) (ho : w.ownsRow base e size v n xs) : Below base w w' :=
  (Below.refl _ _).grown h.gr hb (fun k hk => (ho.lt k hk).1)
/-- Another row stays. -/
theorem Grow.other {w w' : World} {v v' u : Value} {base e size n : Nat} {xs : List Value} (h : Grow w w' v v') (ho : w.ownsRow base e size u n xs) (hne : ∀ k, u.ownBlock = some k → v.ownBlock ≠ some k) : w'.ownsRow base e size u n xs := by
  refine ho.kept h.gr ?_
  cases hu : u.ownBlock with
  | none => simp
  | some k => exact .inr fun e => hne k hu e.symm

/-- append of a text onto a row of the call's own: whose the row is. -/
theorem wpList_apps {P : Program} {w : World} {ops : Array Oper} {rest : List Oper} {o : Oper} {a : Act} {Q : Exit → Act → World → Prop} (hgd : o.guard = none) (sl x : Operand) (t u : TypeId)
    (ho : o.op = .call { callee := .builtin .append, args := #[sl, x], argTypes := #[t, u] })
    (base : Nat) (e : TypeId) (T : ElT P t e (.int .u8 0) 1 1) (hu : P.underlying u = some .string)
    (v : Value) (n : Nat) (xs : List Value) (hs : a.eval sl = v) (hown : w.ownsRow base e 1 v n xs) (s : ByteArray) (hx : a.eval x = .string s)
    (h63 : n + s.size ≤ maxLen) (hbytes : n + s.size ≤ 140737488355328) (hbase : base ≤ w.heap.size)
    (h : ∀ v' w', w'.ownsRow base e 1 v' (n + s.size) (xs ++ Lib.strCells s) → w.grownBy w' v.ownBlock → (v'.ownBlock = v.ownBlock ∨ v'.ownBlock = some w.heap.size) → wpList P ops Q rest (a.put o.dst v') w') : wpList P ops Q (o :: rest) a w := by
  refine wpList_plain hgd fun K hK => ?_
  obtain ⟨i, hi, hz, hsize, hby⟩ := info_parts T.info
  have ht := T.ht
  have hsmall : n + s.size ≤ 9223372036854775807 := by simp only [maxLen] at h63; omega
  obtain ⟨v', w', hr, h2, h3, h4⟩ := Lib.run_append_own_string (P := P) w base t u o.type e i ht hu hi hz hsize hby v n xs hown s h63 hbytes hbase
  have hb : v'.ownBlock = v.ownBlock ∨ v'.ownBlock = some w.heap.size := by
    rcases hown.2 with ⟨rfl, rfl⟩ | ⟨g, cap, cur, rfl, hbg, hg, hnc, hcm, hcs, htake⟩
    · by_cases hm : s.size = 0
      · obtain rfl := h4.2 ⟨rfl, hm⟩
        exact .inl rfl
      · have hr2 := run_append_nil_string (P := P) w t u o.type e i (.int .u8 0) ht hu hi hz s (by omega) (by omega) (by rw [hby]; omega)
        rw [hr] at hr2
        injection hr2 with hr3 _
        subst hr3
        exact .inr rfl
    · by_cases hroom : n + s.size ≤ cap
      · have hcs' : cur.size = cap := by simpa using hcs
        have hr2 := Lib.run_append_room_string (P := P) w t u o.type e i ht hu hi hsize g n cap cur hg s hroom (by omega)
        rw [hr] at hr2
        injection hr2 with hr3 _
        subst hr3
        exact .inl rfl
      · have hxl : xs.length = n := by simpa using hown.1
        have holds : ∀ j u, xs[j]? = some u → w.cell? ((⟨g, 0, none⟩ : Addr).add j) = some u := hown.cells (g := g) rfl
        have hr2 := Lib.run_append_grow_string (P := P) w t u o.type e i (.int .u8 0) ht hu hi hz ⟨g, 0, none⟩ n cap xs (by rw [hsize]; simpa using hxl) holds s (by omega) (by omega) (by rw [hby]; exact growslice_fits (by omega) (by omega))
        rw [hr] at hr2
        injection hr2 with hr3 _
        subst hr3
        exact .inr rfl
  unfold Oper.wp execOp
  simp only [ho, resolve, invoke, builtin, Sem.run_bind, Sem.run_pure, Result.andThen_ok, List.map_toArray, List.map_cons, List.map_nil, hs, hx, hr]
  exact hK _ _ (h v' w' h2 h3 hb)

set_option maxHeartbeats 1000000 in
theorem laid_own (v : Value) (l : List UInt8) (n fl : Nat) (w : World) (base : Nat) (hga : w.ownsRow base 5 1 v l.length (l.map bv)) (hbase : base ≤ w.heap.size) (hn : n < 18446744073709551616) (hf : fl = 0 ∨ fl = 128) (hl : l.length + 9 ≤ 140737488355328) :
    Calls Try.prog 44 #[v, .int .u64 n, .int .i64 fl] w fun e w' => ∃ v', e = .returned v' ∧ w'.ownsRow base 5 1 v' (l ++ laidB n fl).length ((l ++ laidB n fl).map bv) ∧ Grow w w' v v' := by
  have hw8 := wid_le n
  obtain ⟨A, cA, rfl, _, _, _⟩ := own_rd hga
  have HM := Lib.hid (many_any n w hn)
  have hfl : fl ≤ 128 := by omega
  have HLA : Hid (laidB n fl = UInt8.ofNat (wid n + fl) :: be (wid n) n) := rfl
  have HBL := Lib.hid (be_length (wid n) n)
  have HBT := Lib.hid (be_take_succ (wid n) n)
  clear hf
  generalize wid n = wd at *
  go_enter Try.func44, Try.ntmps44
  obtain ⟨hd, hhd⟩ : ∃ hd, hd = wd + fl := ⟨_, rfl⟩
  rw [← hhd] at HLA
  have hd8 : hd ≤ 136 := by omega
  have hsum : (wd : Int) + (fl : Int) = (hd : Int) := by omega
  clear hhd
  have HCS := Lib.hid (cs_one_byte w (hd : Int) (UInt8.ofNat hd) (by simp [bv]; omega))
  have HGA := Lib.hid (ownsRow_keep hga (below_alloc w (.cells #[.int .u8 (hd : Int)] 5)))
  have hbs : base ≤ (w.alloc (.cells #[.int .u8 (hd : Int)] 5)).heap.size := by simp; omega
  have hbl : (l.length + 1) * 1 ≤ 140737488355328 := by omega
  have hmx0 : l.length + 1 ≤ maxLen := by unfold maxLen; omega
  have hone0 := bvs_one [UInt8.ofNat hd]
  have HBA := Lib.hid ((Grow.refl w (.slice A l.length cA)).alloc (.cells #[.int .u8 (hd : Int)] 5))
  have HX0 := Lib.hid (show l.map bv ++ [UInt8.ofNat hd].map bv = (l ++ [UInt8.ofNat hd]).map bv by simp)
  go_upto_region 3 with (first
    | (go_at_call 62; refine HM.out.mono ?_; rintro e w' ⟨rfl, rfl⟩)
    | (at_builtin; refine wpList_app bytesT rfl (.tmp 10) (.tmp 15) rfl base _ l.length _ rfl HGA.out (some ⟨w.heap.size, 0, none⟩) 1 1 ([UInt8.ofNat hd].map bv) rfl rfl HCS.out hone0 hmx0 hbl hbs ?_; intro v1 w1 hown1 hgr1 hnb1; rw [HX0.out] at hown1))
  have hb1' := HBA.out.trans (Grow.of hgr1 hnb1)
  have hb1z : w.heap.size ≤ w1.heap.size := hb1'.gr.size
  clear HGA HCS hga hgr1 hnb1 HBA hbs hbl hsum HM hmx0 hone0 HX0
  go_wp2
  go_loopw [0, 7] (fun v sh wr => ∃ i : Nat, i ≤ wd ∧ sh = .int .i64 ((wd - i : Nat) : Int) ∧ wr.ownsRow base 5 1 v (l.length + 1 + i) ((l ++ [UInt8.ofNat hd] ++ (be wd n).take i).map bv) ∧ Grow w wr (.slice A l.length cA) v) (fun _ sh _ => (intOf sh).toNat)
  case atStart => exact ⟨0, Nat.zero_le _, by simp, by simpa using hown1, hb1'⟩
  case round =>
    obtain ⟨i, hi, rfl, hown, hb⟩ := hrel
    clear hown1 hb1'
    have hbz : base ≤ wr.heap.size := Nat.le_trans hbase hb.gr.size
    by_cases hlt : i < wd
    · obtain ⟨s, hs⟩ : ∃ s : Nat, wd - i = s + 1 := ⟨wd - i - 1, by omega⟩
      rw [hs]
      have HS2 := Lib.hid (show s = wd - 1 - i by omega)
      have hs7 : s ≤ 7 := by omega
      have hdd : decide (0 < ((s + 1 : Nat) : Int)) = true := by simp
      obtain ⟨q, hq, hq2⟩ : ∃ q : Nat, 8 * (s : Int) = (q : Int) ∧ q = 8 * s := ⟨8 * s, by omega, rfl⟩
      have hq56 : q ≤ 56 := by omega
      have HQ2 := Lib.hid hq2
      clear hq2
      have HS := Lib.hid hs
      clear hs
      have HBY := Lib.hid (show Value.int .u8 ((n : Int) / 2 ^ q % 256) = bv (UInt8.ofNat (n / 256 ^ (wd - 1 - i))) by
        rw [HQ2.out, HS2.out]
        exact shr_byte n _)
      have HCS := Lib.hid (cs_one_byte wr _ _ HBY.out)
      have HOW := Lib.hid (ownsRow_keep hown (below_alloc wr (.cells #[.int .u8 ((n : Int) / 2 ^ q % 256)] 5)))
      have hbs : base ≤ (wr.alloc (.cells #[.int .u8 ((n : Int) / 2 ^ q % 256)] 5)).heap.size := by simp; omega
      have hmx : l.length + 1 + i + 1 ≤ maxLen := by unfold maxLen; omega
      have hbx : (l.length + 1 + i + 1) * 1 ≤ 140737488355328 := by omega
      have hone := bvs_one [UInt8.ofNat (n / 256 ^ (wd - 1 - i))]
      have HX := Lib.hid (show (l ++ [UInt8.ofNat hd] ++ (be wd n).take i).map bv ++ [UInt8.ofNat (n / 256 ^ (wd - 1 - i))].map bv = (l ++ [UInt8.ofNat hd] ++ (be wd n).take (i + 1)).map bv by
        rw [HBT.out i hlt]
        simp only [List.map_append, List.append_assoc])
      have HBA := Lib.hid (hb.alloc (.cells #[.int .u8 ((n : Int) / 2 ^ q % 256)] 5))
      go_wp2_with (at_builtin; refine wpList_app bytesT rfl (.tmp 21) (.tmp 28) rfl base _ (l.length + 1 + i) _ rfl HOW.out (some ⟨wr.heap.size, 0, none⟩) 1 1 ([UInt8.ofNat (n / 256 ^ (wd - 1 - i))].map bv) rfl rfl HCS.out hone hmx hbx hbs ?_; intro v2 w2 hown2 hgr2 hnb2; rw [HX.out] at hown2)
      have hb2 := HBA.out.trans (Grow.of hgr2 hnb2)
      go_roundw
      case rel => exact ⟨i + 1, by omega, by have := HS.out; congr 1; omega, hown2, hb2⟩
      case measure => simp [intOf]
    · obtain rfl : i = wd := by omega
      rw [Nat.sub_self]
      have hdd : decide (0 < ((0 : Nat) : Int)) = false := by simp
      go_wp2
      go_ret
      refine ⟨_, rfl, ?_, hb⟩
      have h9 := hown
      rw [List.take_of_length_le (by rw [HBL.out]; exact Nat.le_refl _)] at h9
      have e1 : (l ++ laidB n fl).length = l.length + 1 + i := by rw [HLA.out]; simp [HBL.out]; omega
      rw [e1, HLA.out]
      simpa using h9

set_option maxHeartbeats 400000 in
theorem rUint_own (v : Value) (l : List UInt8) (n : Nat) (w : World) (base : Nat) (hga : w.ownsRow base 5 1 v l.length (l.map bv)) (hbase : base ≤ w.heap.size) (hn : n < 18446744073709551616) (hl : l.length + 9 ≤ 140737488355328) :
    Calls Try.prog 21 #[v, .int .u64 n] w fun e w' => ∃ v', e = .returned v' ∧ w'.ownsRow base 5 1 v' (l ++ laidB n 0).length ((l ++ laidB n 0).map bv) ∧ Grow w w' v v' := by
  have HC := Lib.hid (show Calls Try.prog 44 #[v, .int .u64 n, .int .i64 0] w fun e w' => ∃ v', e = .returned v' ∧ w'.ownsRow base 5 1 v' (l ++ laidB n 0).length ((l ++ laidB n 0).map bv) ∧ Grow w w' v v' from laid_own v l n 0 w base hga hbase hn (.inl rfl) hl)
  obtain ⟨A, cA, rfl, _, _, _⟩ := own_rd hga
  go_enter Try.func21, Try.ntmps21
  go_wp2_with (go_at_call 44; refine HC.out.mono ?_; rintro e w2 ⟨v2, rfl, hown2, hb2⟩)
  go_ret
  exact ⟨_, rfl, hown2, hb2⟩

set_option maxHeartbeats 400000 in
theorem rInt_own (v : Value) (l : List UInt8) (z : Int) (w : World) (base : Nat) (hga : w.ownsRow base 5 1 v l.length (l.map bv)) (hbase : base ≤ w.heap.size) (h1 : -9223372036854775808 ≤ z) (h2 : z ≤ 9223372036854775807) (hl : l.length + 9 ≤ 140737488355328) :
    Calls Try.prog 45 #[v, .int .i64 z] w fun e w' => ∃ v', e = .returned v' ∧ w'.ownsRow base 5 1 v' (l ++ laidI z).length ((l ++ laidI z).map bv) ∧ Grow w w' v v' := by
  obtain ⟨A, cA, rfl, _, _, _⟩ := own_rd hga
  by_cases hz : z < 0
  · have hd : decide (z < 0) = true := by simpa using hz
    obtain ⟨n, hn, hn2, hn3⟩ : ∃ n : Nat, -(z + 1) = (n : Int) ∧ n < 9223372036854775808 ∧ (-(z + 1)).toNat = n := ⟨(-(z + 1)).toNat, by omega, by omega, rfl⟩
    have HE := Lib.hid (show laidI z = laidB n 128 by unfold laidI; rw [if_pos hz, hn3])
    have HC := Lib.hid (show Calls Try.prog 44 #[.slice A l.length cA, .int .u64 n, .int .i64 128] w fun e w' => ∃ v', e = .returned v' ∧ w'.ownsRow base 5 1 v' (l ++ laidB n 128).length ((l ++ laidB n 128).map bv) ∧ Grow w w' (.slice A l.length cA) v' from laid_own _ l n 128 w base hga hbase (by omega) (.inr rfl) hl)
    have q1 : IntKind.u64.wrap (-(z + 1)) = (n : Int) := by rw [hn]; show (n : Int) % 18446744073709551616 = _; omega
    have q2 : (-(z + 1)) % 18446744073709551616 = (n : Int) := by omega
    clear hn3
    go_enter Try.func45, Try.ntmps45
    go_wp2_with (go_at_call 44; refine HC.out.mono ?_; rintro e w2 ⟨v2, rfl, hown2, hb2⟩)
    go_ret
    rw [HE.out]
    exact ⟨_, rfl, hown2, hb2⟩
  · have hd : decide (z < 0) = false := by simpa using hz
    obtain ⟨n, rfl⟩ := Int.eq_ofNat_of_zero_le (show 0 ≤ z by omega)
    have HE := Lib.hid (show laidI (n : Int) = laidB n 0 by unfold laidI; rw [if_neg hz, Int.toNat_natCast])
    have HC := Lib.hid (show Calls Try.prog 44 #[.slice A l.length cA, .int .u64 n, .int .i64 0] w fun e w' => ∃ v', e = .returned v' ∧ w'.ownsRow base 5 1 v' (l ++ laidB n 0).length ((l ++ laidB n 0).map bv) ∧ Grow w w' (.slice A l.length cA) v' from laid_own _ l n 0 w base hga hbase (by omega) (.inl rfl) hl)
    go_enter Try.func45, Try.ntmps45
    go_wp2_with (go_at_call 44; refine HC.out.mono ?_; rintro e w2 ⟨v2, rfl, hown2, hb2⟩)
    go_ret
    rw [HE.out]
    exact ⟨_, rfl, hown2, hb2⟩

set_option maxHeartbeats 400000 in
theorem rText_own (v : Value) (l : List UInt8) (x : List UInt8) (w : World) (base : Nat) (hga : w.ownsRow base 5 1 v l.length (l.map bv)) (hbase : base ≤ w.heap.size) (hl : l.length + 9 + x.length ≤ 140737488355328) :
    Calls Try.prog 46 #[v, .string ⟨x.toArray⟩] w fun e w' => ∃ v', e = .returned v' ∧ w'.ownsRow base 5 1 v' (l ++ laidS x).length ((l ++ laidS x).map bv) ∧ Grow w w' v v' := by
  have HC := Lib.hid (rUint_own v l x.length w base hga hbase (by omega) (by omega))
  obtain ⟨A, cA, rfl, _, _, _⟩ := own_rd hga
  have hlb := laidB_len x.length 0
  have hwl := wid_le x.length
  obtain ⟨L2, hL2⟩ : ∃ L2, L2 = l ++ laidB x.length 0 := ⟨_, rfl⟩
  rw [← hL2] at HC
  have HE := Lib.hid (show l ++ laidS x = L2 ++ x by rw [hL2, laidS, List.append_assoc])
  have hL2l : L2.length + x.length ≤ 140737488355328 := by rw [hL2, List.length_append]; omega
  have hxs : (⟨x.toArray⟩ : ByteArray).size = x.length := by simp [ByteArray.size]
  have HMX := Lib.hid (And.intro (show L2.length + (⟨x.toArray⟩ : ByteArray).size ≤ maxLen by rw [hxs]; unfold maxLen; omega) (show L2.length + (⟨x.toArray⟩ : ByteArray).size ≤ 140737488355328 by rw [hxs]; exact hL2l))
  have HXS := Lib.hid hxs
  have hx9 : x.length ≤ 140737488355328 := by omega
  clear hL2 hlb hwl hxs
  go_enter Try.func46, Try.ntmps46
  go_wp2_with (first
    | (go_at_call 21; refine HC.out.mono ?_; rintro e w2 ⟨v2, rfl, hown2, hb2⟩; have hbz := Nat.le_trans hbase hb2.gr.size)
    | (at_builtin; refine wpList_apps rfl (.tmp 9) (.tmp 10) 23 9 rfl base 5 bytesT Try.underlying9 _ _ _ rfl hown2 ⟨x.toArray⟩ rfl HMX.out.1 HMX.out.2 hbz ?_; intro v3 w3 hown3 hgr3 hnb3))
  have hb3 := hb2.trans (Grow.of hgr3 hnb3)
  rw [strCells_bv, ← List.map_append, HXS.out] at hown3
  go_ret
  exact ⟨_, rfl, by rw [HE.out, List.length_append]; exact hown3, hb3⟩
end Go.Proofs.Ytommadcjemljcaa
