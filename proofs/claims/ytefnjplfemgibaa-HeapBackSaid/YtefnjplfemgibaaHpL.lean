/- Heap (layer 9): Read, Check. -/
import Derived.Test.YtefnjplfemgibaaHpK
namespace Go.Proofs.Ytefnjplfemgibaa
open Go.RowKit
set_option linter.unusedVariables false

/-- A heap's three slices, in memory. -/
structure HRd (W : World) (Aw : Option Addr) (lw cw : Nat) (Aa : Option Addr) (la ca : Nat) (Ar : Option Addr) (lr cr : Nat) (ws : List Nat) (nm : List (List UInt8)) (rs : List Nat) : Prop where
  w : RdC W Aw (ws.map nv)
  a : RdC W Aa (nm.map hv)
  r : RdC W Ar (rs.map nv)
  hlw : ws.length = lw
  hla : nm.length = la
  hlr : rs.length = lr
  hcw : lw ≤ cw ∧ cw ≤ 9223372036854775807
  hca : la ≤ ca ∧ ca ≤ 9223372036854775807
  hcr : lr ≤ cr ∧ cr ≤ 9223372036854775807
  w64 : W64 ws
  r64 : W64 rs
section
variable {W W' : World} {Aw Aa Ar : Option Addr} {lw cw la ca lr cr : Nat} {ws rs : List Nat} {nm : List (List UInt8)}
theorem HRd.below (h : HRd W Aw lw cw Aa la ca Ar lr cr ws nm rs) (hb : Below W.heap.size W W') : HRd W' Aw lw cw Aa la ca Ar lr cr ws nm rs := { h with w := h.w.below hb, a := h.a.below hb, r := h.r.below hb }
def ReadEnds (W : World) (r : Except Nat (List TV)) (e : Ending) (W' : World) : Prop :=
  Below W.heap.size W W' ∧ (∀ er, r = .error er → er ≠ 0 ∧ e = .returned (.tuple #[.slice none 0 0, .int .i64 (er : Int)])) ∧ (∀ ts, r = .ok ts → ∃ A c, e = .returned (.tuple #[.slice A ts.length c, .int .i64 0]) ∧ LEx (fun k => k < W.heap.size) W' (.slice A ts.length c) ts)
set_option maxRecDepth 100000 in
set_option maxHeartbeats 4000000 in
theorem hread_v (W : World) (h : HRd W Aw lw cw Aa la ca Ar lr cr ws nm rs) :
    Calls Try.prog 16 #[.agg #[.slice Aw lw cw, .slice Aa la ca, .slice Ar lr cr]] W (ReadEnds W (readP ws nm rs)) := by
  have HH := Lib.hid h
  have hl1 := h.hlw
  have hl2 := h.hla
  have hl3 := h.hlr
  clear h
  obtain ⟨g, hg⟩ : ∃ g, W.heap.size = g := ⟨_, rfl⟩
  have HG := Lib.hid hg
  by_cases hbig : 65536 < ws.length ∨ 65536 < nm.length ∨ 65536 < rs.length
  · have HE := Lib.hid (show readP ws nm rs = .error 90 from by unfold readP; rw [if_pos hbig])
    rw [hl1, hl2, hl3] at hbig
    obtain ⟨m1, hm1⟩ : ∃ m1 : Int, (if lw < la then (la : Int) else (lw : Int)) = m1 := ⟨_, rfl⟩
    obtain ⟨m2, hm2⟩ : ∃ m2 : Int, (if m1 < (lr : Int) then (lr : Int) else m1) = m2 := ⟨_, rfl⟩
    have hmx : decide ((65536 : Int) < m2) = true := by
      rw [decide_eq_true_eq]
      split at hm1 <;> split at hm2 <;> omega
    have HB := Lib.hid hbig
    clear hl1 hl2 hl3 hbig
    go_enter Try.func16, Try.ntmps16
    go_upto_region 1 with (fail)
    refine wp_world (fun V => Below W.heap.size W V ∧ Blk V g 29 #[.slice Aw lw cw, .slice Aa la ca, .slice Ar lr cr]) ⟨below_alloc _ _, by rw [← HG.out]; exact Blk.new _ _ _⟩ ?_
    rintro V ⟨hb, hk⟩
    have HBL := Lib.hid hb
    have x0 := hk.cell 0
    have x1 := hk.cell 1
    have x2 := hk.cell 2
    clear hb hk hg
    go_wp2
    refine bodyPost_ret (v := .tuple #[.slice none 0 0, .int .i64 90]) (by simp [results, Try.results16, go_sem]) rfl ?_
    rw [HE.out]
    exact ⟨HBL.out, fun er h => by (cases h; exact ⟨by decide, rfl⟩), fun ts h => by cases h⟩
  · have HE1 := Lib.hid (show readP ws nm rs = (match rdL (fun y l => rdT ws nm ws.length y l) rs 4096 with | .error e => .error e | .ok (ts, _) => .ok ts) from by unfold readP; rw [if_neg hbig]; rfl)
    rw [hl1] at HE1
    rw [hl1, hl2, hl3] at hbig
    have hb1 : lw ≤ 65536 := by omega
    have hb2 : la ≤ 65536 := by omega
    have hb3 : lr ≤ 65536 := by omega
    obtain ⟨m1, hm1⟩ : ∃ m1 : Int, (if lw < la then (la : Int) else (lw : Int)) = m1 := ⟨_, rfl⟩
    obtain ⟨m2, hm2⟩ : ∃ m2 : Int, (if m1 < (lr : Int) then (lr : Int) else m1) = m2 := ⟨_, rfl⟩
    have hmx : decide ((65536 : Int) < m2) = false := by
      rw [decide_eq_false_iff_not]
      split at hm1 <;> split at hm2 <;> omega
    clear hl1 hl2 hl3 hbig
    go_enter Try.func16, Try.ntmps16
    go_upto_region 1 with (fail)
    refine wp_world (fun V => Below W.heap.size W V ∧ Blk V g 29 #[.slice Aw lw cw, .slice Aa la ca, .slice Ar lr cr]) ⟨below_alloc _ _, by rw [← HG.out]; exact Blk.new _ _ _⟩ ?_
    rintro V ⟨hb, hk⟩
    have HBL := Lib.hid hb
    have HK := Lib.hid hk
    have x0 := hk.cell 0
    have x1 := hk.cell 1
    have x2 := hk.cell 2
    clear hb hk hg
    go_upto_region 4 with (fail)
    obtain ⟨pw, hpw⟩ : ∃ pw, V.heap.size = pw := ⟨_, rfl⟩
    rw [hpw]
    refine wp_world (fun V' => Below W.heap.size W V' ∧ Blk V' g 29 #[.slice Aw lw cw, .slice Aa la ca, .slice Ar lr cr] ∧ Blk V' pw 79 (WC Aw lw cw Aa la ca Ar lr cr ((4096 : Nat) : Int) 0) ∧ g < pw) ⟨below_step HBL.out (below_alloc _ _), HK.out.alloc _, by rw [← hpw]; exact Blk.new _ _ _, by have := HK.out.lt; omega⟩ ?_
    clear HBL HK x0 x1 x2 hpw hmx hm1 hm2
    rintro V1 ⟨h1, h2, h3, h4⟩
    have HBL := Lib.hid h1
    have HK := Lib.hid h2
    have HW := Lib.hid h3
    have HGP := Lib.hid h4
    have x2 := h2.cell 2
    clear h1 h2 h3 h4
    go_wp2
    clear x2
    have HIH := Lib.hid (wterm_any (w0 := W) (pw := pw) (Aw := Aw) (lw := lw) (cw := cw) (Aa := Aa) (la := la) (ca := ca) (Ar := Ar) (lr := lr) (cr := cr) (ws := ws) (nm := nm) (by have := HGP.out; have := HG.out; omega) HH.out.w HH.out.a HH.out.hlw HH.out.hla HH.out.w64 HH.out.hcw.1 HH.out.hcw.2 (by omega) (by omega) lw (Nat.le_refl _))
    go_loopw [2, 24] (fun v ix wr => ∃ (j lj : Nat) (Aj : Option Addr) (cj : Nat) (cs : List Value) (ts : List TV), j ≤ lr ∧ ix = .int .i64 j ∧ v = .slice Aj j cj ∧ rdL (fun y l => rdT ws nm lw y l) (rs.take j) 4096 = .ok (ts, lj) ∧ RI (pw + 1) wr Aj j cj cs ts ∧ (Blk wr pw 79 (WC Aw lw cw Aa la ca Ar lr cr (lj : Int) 0) ∧ Blk wr g 29 #[.slice Aw lw cw, .slice Aa la ca, .slice Ar lr cr]) ∧ Below W.heap.size W wr) (fun _ ix _ => lr - (intOf ix).toNat)
    case atStart => exact ⟨0, 4096, none, 0, [], [], Nat.zero_le _, rfl, rfl, rfl, ⟨World.ownsRow_nil _ _ _ _, std_nil _⟩, ⟨HW.out, HK.out⟩, HBL.out⟩
    case round =>
      obtain ⟨j, lj, Aj, cj, cs, ts, hj, rfl, rfl, hrd, hri, ⟨hw, hk⟩, hbl⟩ := hrel
      clear HW HK HBL
      have hlj : lj ≤ 4096 := rdL_le (f := fun y l => rdT ws nm lw y l) (fun y l t l' => rdT_le lw y l t l') _ _ _ _ hrd
      have hpsz : pw < wr.heap.size := hw.lt
      by_cases hlt : j < lr
      · have hd1 : decide (j < lr) = true := by simp; omega
        have hkl : j < rs.length := by rw [HH.out.hlr]; exact hlt
        obtain ⟨y, hy⟩ : ∃ y, rs[j]? = some y := ⟨_, List.getElem?_eq_getElem hkl⟩
        obtain ⟨b', o', rfl, hcy⟩ := HH.out.r.at_ (j := j) (v := nv y) (by simp [hy])
        have c0 : wr.cell? ⟨b', o' + j, none⟩ = some (.int .u64 (y : Int)) := (hbl.cell (World.block_lt_of_cell? W _ hcy)).trans hcy
        have hy64 : y < 18446744073709551616 := HH.out.r64 y (List.mem_of_getElem? hy)
        have hq1 : (0 : Int) ≤ (j : Int) := by omega
        have hq2 : (j : Int) < (lr : Int) := by omega
        have htk : rs.take (j + 1) = rs.take j ++ [y] := by rw [List.take_add_one, hy]; rfl
        have hsp : rs = rs.take j ++ y :: rs.drop (j + 1) := by
          obtain ⟨h8, h7⟩ := List.getElem?_eq_some_iff.1 hy
          conv => lhs; rw [← List.take_append_drop j rs, List.drop_eq_getElem_cons h8, h7]
        have HCALL := Lib.hid (HIH.out y lj wr hy64 hlj hbl hw)
        have w0 := hk.cell 0
        have HRD := Lib.hid hrd
        have HRI := Lib.hid hri
        have HW := Lib.hid hw
        have HK := Lib.hid hk
        have HBL := Lib.hid hbl
        have HTK := Lib.hid htk
        have HSP := Lib.hid hsp
        clear hrd hri hw hk hbl hcy hy htk hsp hkl
        go_upto_region 8 with (first
          | (go_at_call 36; refine HCALL.out.mono ?_; rintro e w6 ⟨hf6, k6, i6, s6, A6, n6, c6, rfl, her, hok⟩; have hR6 := (HRI.out.step hf6 (fun k hk => by rw [hk]; omega)).step (Fr.alloc (fun _ => False) w6 (.cells #[.int .i64 k6, .int .i64 i6, .string ⟨s6.toArray⟩, .slice A6 n6 c6] 37)) (fun _ h => h.elim); have HR6 := Lib.hid hR6; have HF6 := Lib.hid hf6; have HER := Lib.hid her; have HOK := Lib.hid hok; clear hR6 hf6 her hok)
          | (at_builtin; refine wpList_app termT rfl (.tmp 28) (.tmp 35) rfl (pw + 1) (.slice Aj j cj) j cs rfl HR6.out.own (some ⟨w6.heap.size, 0, none⟩) 1 1 [.int .i64 k6, .int .i64 i6, .string ⟨s6.toArray⟩, .slice A6 n6 c6] rfl rfl (blk_cs (Blk.new w6 _ _)) (by intro u hu; simp only [List.mem_cons, List.mem_nil_iff, or_false] at hu; rcases hu with rfl | rfl | rfl | rfl <;> rfl) (by unfold maxLen; omega) (by omega) (Nat.le_trans (Nat.lt_of_lt_of_le hpsz HF6.out.size) (below_alloc _ _).size) ?_; intro v7 w7 ho7 hg7 hat7; obtain ⟨A7, c7, rfl⟩ := own_sl ho7; have HO7 := Lib.hid ho7; have HG7 := Lib.hid hg7; have HA7 := Lib.hid hat7; clear ho7 hg7 hat7))
        have hrow : ∀ q, (Value.slice Aj j cj).ownBlock = some q → pw < q := fun q hq => (own_heap HR6.out.own hq).1
        have hblk : ∀ {q t' : Nat} {cc : Array Value}, Blk w6 q t' cc → q ≤ pw → Blk w7 q t' cc := fun {q t' cc} h9 hq => (h9.alloc (.cells #[.int .i64 k6, .int .i64 i6, .string ⟨s6.toArray⟩, .slice A6 n6 c6] 37)).grown HG7.out (fun e => by have := hrow q e.symm; omega)
        have hbl7 : Below W.heap.size W w7 := ((HBL.out.trans (HF6.out.below HBL.out.size (fun k hk => by rw [hk]; have := HGP.out; have := HG.out; omega))).trans ((below_alloc w6 (.cells #[.int .i64 k6, .int .i64 i6, .string ⟨s6.toArray⟩, .slice A6 n6 c6] 37)).mono (Nat.le_trans HBL.out.size HF6.out.size))).grown HG7.out (Nat.le_trans (Nat.le_trans HBL.out.size HF6.out.size) (below_alloc w6 _).size) (fun q hq => by have := hrow q hq; have := HGP.out; have := HG.out; omega)
        have hk7 := hblk (HF6.out.blk HK.out (fun e => by have := HGP.out; omega)) (Nat.le_of_lt HGP.out)
        cases hrr : rdT ws nm lw y lj with
        | error er =>
          obtain ⟨hne, l9, hb9⟩ := HER.out er hrr
          have hb8 := hblk hb9 (Nat.le_refl _)
          have HE := Lib.hid (show readP ws nm rs = .error er from by
            rw [HE1.out]
            have h9 : rdL (fun y l => rdT ws nm lw y l) rs 4096 = .error er := by
              rw [HSP.out, rdL_append, HRD.out]
              simp only [rdL, hrr]
            rw [h9])
          refine wp_world (fun V => Blk V pw 79 (WC Aw lw cw Aa la ca (some ⟨b', o', none⟩) lr cr l9 (er : Int)) ∧ Below W.heap.size W V) ⟨hb8, hbl7⟩ ?_
          have HNE := Lib.hid hne
          have de : ((er : Int) == 0) = false := by simpa using hne
          have de2 : ((er : Int) != 0) = true := by simpa using hne
          clear hrow hblk hbl7 hk7 hrr hb8 hb9 HER HOK HR6 HF6 HO7 HG7 HA7 HW HK HBL HRI HRD HSP HTK hne HCALL c0 w0
          rintro V8 ⟨h1, h2⟩
          have HB8 := Lib.hid h2
          have e4 : V8.cell? ⟨pw, 4, none⟩ = some (.int .i64 (er : Int)) := h1.cell 4
          clear h1 h2
          go_upto_region 9 with (fail)
          go_quiet (fail)
          go_wp2
          refine bodyPost_ret (v := .tuple #[.slice none 0 0, .int .i64 (er : Int)]) (by simp [results, Try.results16, go_sem]) rfl ?_
          rw [HE.out]
          exact ⟨⟨HB8.out.os, HB8.out.tape, HB8.out.output, HB8.out.size, HB8.out.block⟩, (fun er' h => by (cases h; exact ⟨HNE.out, rfl⟩)), (fun ts h => by cases h)⟩
        | ok q2 =>
          obtain ⟨t9, l9⟩ := q2
          obtain ⟨hT9, hb9⟩ := HOK.out t9 l9 hrr
          have hb8 := hblk hb9 (Nat.le_refl _)
          have HREL := Lib.hid (show rdL (fun y l => rdT ws nm lw y l) (rs.take (j + 1)) 4096 = .ok (ts ++ [t9], l9) from by
            rw [HTK.out, rdL_append, HRD.out]
            simp only [rdL, hrr])
          have hTA : TEx (fun k => k < pw + 1 ∨ (Value.slice Aj j cj).ownBlock = some k) (w6.alloc (.cells #[.int .i64 k6, .int .i64 i6, .string ⟨s6.toArray⟩, .slice A6 n6 c6] 37)) (.agg #[.int .i64 k6, .int .i64 i6, .string ⟨s6.toArray⟩, .slice A6 n6 c6]) t9 := (TEx.weak hT9 (fun q hq h9 => by
            rcases h9 with h9 | h9
            · show q < wr.heap.size
              omega
            · show q < wr.heap.size
              exact (own_heap HRI.out.own h9).2.1)).below (below_alloc _ _)
          have hRI9 := HR6.out.add (Nat.le_trans (Nat.lt_of_lt_of_le hpsz HF6.out.size) (below_alloc _ _).size) hTA HO7.out HG7.out HA7.out
          refine wp_world (fun V => RI (pw + 1) V A7 (j + 1) c7 (cs ++ [.int .i64 k6, .int .i64 i6, .string ⟨s6.toArray⟩, .slice A6 n6 c6]) (ts ++ [t9]) ∧ Blk V pw 79 (WC Aw lw cw Aa la ca (some ⟨b', o', none⟩) lr cr (l9 : Int) 0) ∧ Blk V g 29 #[.slice Aw lw cw, .slice Aa la ca, .slice (some ⟨b', o', none⟩) lr cr] ∧ Below W.heap.size W V) ⟨hRI9, hb8, hk7, hbl7⟩ ?_
          clear hrow hblk hbl7 hk7 hrr hb8 hb9 HER HOK HR6 HF6 HO7 HG7 HA7 HW HK HBL HRI HRD HSP HTK hTA hRI9 hT9 HCALL c0 w0
          rintro V8 hV8
          have HEND := Lib.hid hV8
          have e4 : V8.cell? ⟨pw, 4, none⟩ = some (.int .i64 0) := hV8.2.1.cell 4
          clear hV8
          go_wp2
          go_roundw
          case rel => exact ⟨j + 1, l9, A7, c7, _, _, by omega, by go_num, rfl, HREL.out, HEND.out.1, ⟨HEND.out.2.1, HEND.out.2.2.1⟩, HEND.out.2.2.2⟩
          case measure => simp [intOf]; omega
      · obtain rfl : lr = j := by omega
        have hd1 : decide (lr < lr) = false := by simp
        have htl : rs.take lr = rs := List.take_of_length_le (by rw [HH.out.hlr]; exact Nat.le_refl _)
        rw [htl] at hrd
        have HE := Lib.hid (show readP ws nm rs = .ok ts from by rw [HE1.out, hrd])
        have hlt9 : ts.length = lr := by rw [rdL_len hrd, HH.out.hlr]
        have HTL := Lib.hid hlt9
        have HRI := Lib.hid hri
        have HBL := Lib.hid hbl
        clear hrd hri hw hk hbl htl hlt9 HE1
        go_wp2
        refine bodyPost_ret (v := .tuple #[.slice Aj lr cj, .int .i64 0]) (by simp [results, Try.results16, go_sem]) rfl ?_
        rw [HE.out]
        refine ⟨HBL.out, (fun er h => by cases h), fun ts' h => ?_⟩
        cases h
        have h9 := (lex_own (X := fun k => k < pw + 1) HRI.out.own (fun _ h => h) (HRI.out.std.kept (kept_step (Fr.refl (fun _ => False) wr) (fun _ _ h => h.elim) (fun k _ hk => .inl hk)))).1
        exact ⟨Aj, cj, by rw [HTL.out], by rw [HTL.out]; exact h9.weak (fun q _ hq => by show q < pw + 1; have := HGP.out; have := HG.out; omega)⟩
set_option maxHeartbeats 1000000 in
theorem hcheck_v (W : World) (h : HRd W Aw lw cw Aa la ca Ar lr cr ws nm rs) :
    Calls Try.prog 21 #[.agg #[.slice Aw lw cw, .slice Aa la ca, .slice Ar lr cr]] W fun e W' => e = .returned (.int .i64 ((match readP ws nm rs with | .error er => er | .ok _ => 0 : Nat) : Int)) ∧ Below W.heap.size W W' := by
  cases hr : readP ws nm rs with
  | error er =>
    have HC := Lib.hid (fun V (hV : Below W.heap.size W V) => hread_v V (h.below hV))
    rw [hr] at HC
    clear h
    go_enter Try.func21, Try.ntmps21
    go_wp2_with (go_at_call 16; refine (HC.out _ (below_alloc _ _)).mono ?_; rintro e w1 ⟨hb, he, _⟩; obtain ⟨_, rfl⟩ := he er rfl)
    refine bodyPost_ret (v := .int .i64 (er : Int)) (by simp [results, Try.results21, go_sem]) rfl ?_
    exact ⟨rfl, below_step (below_alloc _ _) hb⟩
  | ok ts =>
    have HC := Lib.hid (fun V (hV : Below W.heap.size W V) => hread_v V (h.below hV))
    rw [hr] at HC
    clear h
    go_enter Try.func21, Try.ntmps21
    go_wp2_with (go_at_call 16; refine (HC.out _ (below_alloc _ _)).mono ?_; rintro e w1 ⟨hb, _, he⟩; obtain ⟨A, c, rfl, _⟩ := he ts rfl)
    refine bodyPost_ret (v := .int .i64 0) (by simp [results, Try.results21, go_sem]) rfl ?_
    exact ⟨rfl, below_step (below_alloc _ _) hb⟩
end
end Go.Proofs.Ytefnjplfemgibaa
