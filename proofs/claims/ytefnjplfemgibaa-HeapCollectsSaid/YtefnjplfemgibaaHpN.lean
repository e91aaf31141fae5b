/- Heap (layer 9): Read, Check. Heap (layer 9): what compares heaps (the document's same, Same); num. -/
import Derived.Test.YtefnjplfemgibaaHpK
namespace Go.Proofs.Ytefnjplfemgibaa
section
open Go.RowKit
set_option linter.unusedVariables false

/-- A heap's three slices, in memory. -/
structure HRd (W : World) (Aw : Option Addr) (lw cw : Nat) (Aa : Option Addr) (la ca : Nat) (Ar : Option Addr) (lr cr : Nat) (ws : List Nat) (nm : List (List UInt8)) (rs : List Nat) : Prop where
  w : RdC W Aw (ws.map nv)
  a : RdC W Aa (nm.map hv)
  r : RdC W Ar (rs.map nv)
  hlw : ws.length = lw
  hla : nm.length = la
  hlr : rs.length = lr
  hcw : lw ≤ cw ∧ cw ≤ 9223372036854775807
  hca : la ≤ ca ∧ ca ≤ 9223372036854775807
  hcr : lr ≤ cr ∧ cr ≤ 9223372036854775807
  w64 : W64 ws
  r64 : W64 rs
section
variable {W W' : World} {Aw Aa Ar : Option Addr} {lw cw la ca lr cr : Nat} {ws rs : List Nat} {nm : List (List UInt8)}
theorem HRd.below (h : HRd W Aw lw cw Aa la ca Ar lr cr ws nm rs) (hb : Below W.heap.size W W') : HRd W' Aw lw cw Aa la ca Ar lr cr ws nm rs := { h with w := h.w.below hb, a := h.a.below hb, r := h.r.below hb }
def ReadEnds (W : World) (r : Except Nat (List TV)) (e : Ending) (W' : World) : Prop :=
  Below W.heap.size W W' ∧ (∀ er, r = .error er → er ≠ 0 ∧ e = .returned (.tuple #[.slice none 0 0, .int .i64 (er : Int)])) ∧ (∀ ts, r = .ok ts → ∃ A c, e = .returned (.tuple #[.slice A ts.length c, .int .i64 0]) ∧ LEx (fun k => k < W.heap.size) W' (.slice A ts.length c) ts)
set_option maxRecDepth 100000 in
set_option maxHeartbeats 4000000 in
theorem hread_v (W : World) (h : HRd W Aw lw cw Aa la ca Ar lr cr ws nm rs) :
    Calls Try.prog 16 #[.agg #[.slice Aw lw cw, .slice Aa la ca, .slice Ar lr cr]] W (ReadEnds W (readP ws nm rs)) := by
  have HH := Lib.hid h
  have hl1 := h.hlw
  have hl2 := h.hla
  have hl3 := h.hlr
  clear h
  obtain ⟨g, hg⟩ : ∃ g, W.heap.size = g := ⟨_, rfl⟩
  have HG := Lib.hid hg
  by_cases hbig : 65536 < ws.length ∨ 65536 < nm.length ∨ 65536 < rs.length
  · have HE := Lib.hid (show readP ws nm rs = .error 90 from by unfold readP; rw [if_pos hbig])
    rw [hl1, hl2, hl3] at hbig
    obtain ⟨m1, hm1⟩ : ∃ m1 : Int, (if lw < la then (la : Int) else (lw : Int)) = m1 := ⟨_, rfl⟩
    obtain ⟨m2, hm2⟩ : ∃ m2 : Int, (if m1 < (lr : Int) then (lr : Int) else m1) = m2 := ⟨_, rfl⟩
    have hmx : decide ((65536 : Int) < m2) = true := by
      rw [decide_eq_true_eq]
      split at hm1 <;> split at hm2 <;> omega
    have HB := Lib.hid hbig
    clear hl1 hl2 hl3 hbig
    go_enter Try.func16, Try.ntmps16
    go_upto_region 1 with (fail)
    refine wp_world (fun V => Below W.heap.size W V ∧ Blk V g 29 #[.slice Aw lw cw, .slice Aa la ca, .slice Ar lr cr]) ⟨below_alloc _ _, by rw [← HG.out]; exact Blk.new _ _ _⟩ ?_
    rintro V ⟨hb, hk⟩
    have HBL := Lib.hid hb
    have x0 := hk.cell 0
    have x1 := hk.cell 1
    have x2 := hk.cell 2
    clear hb hk hg
    go_wp2
    refine bodyPost_ret (v := .tuple #[.slice none 0 0, .int .i64 90]) (by simp [results, Try.results16, go_sem]) rfl ?_
    rw [HE.out]
    exact ⟨HBL.out, fun er h => by (cases h; exact ⟨by decide, rfl⟩), fun ts h => by cases h⟩
  · have HE1 := Lib.hid (show readP ws nm rs = (match rdL (fun y l => rdT ws nm ws.length y l) rs 4096 with | .error e => .error e | .ok (ts, _) => .ok ts) from by unfold readP; rw [if_neg hbig]; rfl)
    rw [hl1] at HE1
    rw [hl1, hl2, hl3] at hbig
    have hb1 : lw ≤ 65536 := by omega
    have hb2 : la ≤ 65536 := by omega
    have hb3 : lr ≤ 65536 := by omega
    obtain ⟨m1, hm1⟩ : ∃ m1 : Int, (if lw < la then (la : Int) else (lw : Int)) = m1 := ⟨_, rfl⟩
    obtain ⟨m2, hm2⟩ : ∃ m2 : Int, (if m1 < (lr : Int) then (lr : Int) else m1) = m2 := ⟨_, rfl⟩
    have hmx : decide ((65536 : Int) < m2) = false := by
      rw [decide_eq_false_iff_not]
      split at hm1 <;> split at hm2 <;> omega
    clear hl1 hl2 hl3 hbig
    go_enter Try.func16, Try.ntmps16
    go_upto_region 1 with (fail)
    refine wp_world (fun V => Below W.heap.size W V ∧ Blk V g 29 #[.slice Aw lw cw, .slice Aa la ca, .slice Ar lr cr]) ⟨below_alloc _ _, by rw [← HG.out]; exact Blk.new _ _ _⟩ ?_
    rintro V ⟨hb, hk⟩
    have HBL := Lib.hid hb
    have HK := Lib.hid hk
    have x0 := hk.cell 0
    have x1 := hk.cell 1
    have x2 := hk.cell 2
    clear hb hk hg
    go_upto_region 4 with (fail)
    obtain ⟨pw, hpw⟩ : ∃ pw, V.heap.size = pw := ⟨_, rfl⟩
    rw [hpw]
    refine wp_world (fun V' => Below W.heap.size W V' ∧ Blk V' g 29 #[.slice Aw lw cw, .slice Aa la ca, .slice Ar lr cr] ∧ Blk V' pw 79 (WC Aw lw cw Aa la ca Ar lr cr ((4096 : Nat) : Int) 0) ∧ g < pw) ⟨below_step HBL.out (below_alloc _ _), HK.out.alloc _, by rw [← hpw]; exact Blk.new _ _ _, by have := HK.out.lt; omega⟩ ?_
    clear HBL HK x0 x1 x2 hpw hmx hm1 hm2
    rintro V1 ⟨h1, h2, h3, h4⟩
    have HBL := Lib.hid h1
    have HK := Lib.hid h2
    have HW := Lib.hid h3
    have HGP := Lib.hid h4
    have x2 := h2.cell 2
    clear h1 h2 h3 h4
    go_wp2
    clear x2
    have HIH := Lib.hid (wterm_any (w0 := W) (pw := pw) (Aw := Aw) (lw := lw) (cw := cw) (Aa := Aa) (la := la) (ca := ca) (Ar := Ar) (lr := lr) (cr := cr) (ws := ws) (nm := nm) (by have := HGP.out; have := HG.out; omega) HH.out.w HH.out.a HH.out.hlw HH.out.hla HH.out.w64 HH.out.hcw.1 HH.out.hcw.2 (by omega) (by omega) lw (Nat.le_refl _))
    go_loopw [2, 24] (fun v ix wr => ∃ (j lj : Nat) (Aj : Option Addr) (cj : Nat) (cs : List Value) (ts : List TV), j ≤ lr ∧ ix = .int .i64 j ∧ v = .slice Aj j cj ∧ rdL (fun y l => rdT ws nm lw y l) (rs.take j) 4096 = .ok (ts, lj) ∧ RI (pw + 1) wr Aj j cj cs ts ∧ (Blk wr pw 79 (WC Aw lw cw Aa la ca Ar lr cr (lj : Int) 0) ∧ Blk wr g 29 #[.slice Aw lw cw, .slice Aa la ca, .slice Ar lr cr]) ∧ Below W.heap.size W wr) (fun _ ix _ => lr - (intOf ix).toNat)
    case atStart => exact ⟨0, 4096, none, 0, [], [], Nat.zero_le _, rfl, rfl, rfl, ⟨World.ownsRow_nil _ _ _ _, std_nil _⟩, ⟨HW.out, HK.out⟩, HBL.out⟩
    case round =>
      obtain ⟨j, lj, Aj, cj, cs, ts, hj, rfl, rfl, hrd, hri, ⟨hw, hk⟩, hbl⟩ := hrel
      clear HW HK HBL
      have hlj : lj ≤ 4096 := rdL_le (f := fun y l => rdT ws nm lw y l) (fun y l t l' => rdT_le lw y l t l') _ _ _ _ hrd
      have hpsz : pw < wr.heap.size := hw.lt
      by_cases hlt : j < lr
      · have hd1 : decide (j < lr) = true := by simp; omega
        have hkl : j < rs.length := by rw [HH.out.hlr]; exact hlt
        obtain ⟨y, hy⟩ : ∃ y, rs[j]? = some y := ⟨_, List.getElem?_eq_getElem hkl⟩
        obtain ⟨b', o', rfl, hcy⟩ := HH.out.r.at_ (j := j) (v := nv y) (by simp [hy])
        have c0 : wr.cell? ⟨b', o' + j, none⟩ = some (.int .u64 (y : Int)) := (hbl.cell (World.block_lt_of_cell? W _ hcy)).trans hcy
        have hy64 : y < 18446744073709551616 := HH.out.r64 y (List.mem_of_getElem? hy)
        have hq1 : (0 : Int) ≤ (j : Int) := by omega
        have hq2 : (j : Int) < (lr : Int) := by omega
        have htk : rs.take (j + 1) = rs.take j ++ [y] := by rw [List.take_add_one, hy]; rfl
        have hsp : rs = rs.take j ++ y :: rs.drop (j + 1) := by
          obtain ⟨h8, h7⟩ := List.getElem?_eq_some_iff.1 hy
          conv => lhs; rw [← List.take_append_drop j rs, List.drop_eq_getElem_cons h8, h7]
        have HCALL := Lib.hid (HIH.out y lj wr hy64 hlj hbl hw)
        have w0 := hk.cell 0
        have HRD := Lib.hid hrd
        have HRI := Lib.hid hri
        have HW := Lib.hid hw
        have HK := Lib.hid hk
        have HBL := Lib.hid hbl
        have HTK := Lib.hid htk
        have HSP := Lib.hid hsp
        clear hrd hri hw hk hbl hcy hy htk hsp hkl
        go_upto_region 8 with (first
          | (go_at_call 36; refine HCALL.out.mono ?_; rintro e w6 ⟨hf6, k6, i6, s6, A6, n6, c6, rfl, her, hok⟩; have hR6 := (HRI.out.step hf6 (fun k hk => by rw [hk]; omega)).step (Fr.alloc (fun _ => False) w6 (.cells #[.int .i64 k6, .int .i64 i6, .string ⟨s6.toArray⟩, .slice A6 n6 c6] 37)) (fun _ h => h.elim); have HR6 := Lib.hid hR6; have HF6 := Lib.hid hf6; have HER := Lib.hid her; have HOK := Lib.hid hok; clear hR6 hf6 her hok)
          | (at_builtin; refine wpList_app termT rfl (.tmp 28) (.tmp 35) rfl (pw + 1) (.slice Aj j cj) j cs rfl HR6.out.own (some ⟨w6.heap.size, 0, none⟩) 1 1 [.int .i64 k6, .int .i64 i6, .string ⟨s6.toArray⟩, .slice A6 n6 c6] rfl rfl (blk_cs (Blk.new w6 _ _)) (by intro u hu; simp only [List.mem_cons, List.mem_nil_iff, or_false] at hu; rcases hu with rfl | rfl | rfl | rfl <;> rfl) (by unfold maxLen; omega) (by omega) (Nat.le_trans (Nat.lt_of_lt_of_le hpsz HF6.out.size) (below_alloc _ _).size) ?_; intro v7 w7 ho7 hg7 hat7; obtain ⟨A7, c7, rfl⟩ := own_sl ho7; have HO7 := Lib.hid ho7; have HG7 := Lib.hid hg7; have HA7 := Lib.hid hat7; clear ho7 hg7 hat7))
        have hrow : ∀ q, (Value.slice Aj j cj).ownBlock = some q → pw < q := fun q hq => (own_heap HR6.out.own hq).1
        have hblk : ∀ {q t' : Nat} {cc : Array Value}, Blk w6 q t' cc → q ≤ pw → Blk w7 q t' cc := fun {q t' cc} h9 hq => (h9.alloc (.cells #[.int .i64 k6, .int .i64 i6, .string ⟨s6.toArray⟩, .slice A6 n6 c6] 37)).grown HG7.out (fun e => by have := hrow q e.symm; omega)
        have hbl7 : Below W.heap.size W w7 := ((HBL.out.trans (HF6.out.below HBL.out.size (fun k hk => by rw [hk]; have := HGP.out; have := HG.out; omega))).trans ((below_alloc w6 (.cells #[.int .i64 k6, .int .i64 i6, .string ⟨s6.toArray⟩, .slice A6 n6 c6] 37)).mono (Nat.le_trans HBL.out.size HF6.out.size))).grown HG7.out (Nat.le_trans (Nat.le_trans HBL.out.size HF6.out.size) (below_alloc w6 _).size) (fun q hq => by have := hrow q hq; have := HGP.out; have := HG.out; omega)
        have hk7 := hblk (HF6.out.blk HK.out (fun e => by have := HGP.out; omega)) (Nat.le_of_lt HGP.out)
        cases hrr : rdT ws nm lw y lj with
        | error er =>
          obtain ⟨hne, l9, hb9⟩ := HER.out er hrr
          have hb8 := hblk hb9 (Nat.le_refl _)
          have HE := Lib.hid (show readP ws nm rs = .error er from by
            rw [HE1.out]
            have h9 : rdL (fun y l => rdT ws nm lw y l) rs 4096 = .error er := by
              rw [HSP.out, rdL_append, HRD.out]
              simp only [rdL, hrr]
            rw [h9])
          refine wp_world (fun V => Blk V pw 79 (WC Aw lw cw Aa la ca (some ⟨b', o', none⟩) lr cr l9 (er : Int)) ∧ Below W.heap.size W V) ⟨hb8, hbl7⟩ ?_
          have HNE := Lib.hid hne
          have de : ((er : Int) == 0) = false := by simpa using hne
          have de2 : ((er : Int) != 0) = true := by simpa using hne
          clear hrow hblk hbl7 hk7 hrr hb8 hb9 HER HOK HR6 HF6 HO7 HG7 HA7 HW HK HBL HRI HRD HSP HTK hne HCALL c0 w0
          rintro V8 ⟨h1, h2⟩
          have HB8 := Lib.hid h2
          have e4 : V8.cell? ⟨pw, 4, none⟩ = some (.int .i64 (er : Int)) := h1.cell 4
          clear h1 h2
          go_upto_region 9 with (fail)
          go_quiet (fail)
          go_wp2
          refine bodyPost_ret (v := .tuple #[.slice none 0 0, .int .i64 (er : Int)]) (by simp [results, Try.results16, go_sem]) rfl ?_
          rw [HE.out]
          exact ⟨⟨HB8.out.os, HB8.out.tape, HB8.out.output, HB8.out.size, HB8.out.block⟩, (fun er' h => by (cases h; exact ⟨HNE.out, rfl⟩)), (fun ts h => by cases h)⟩
        | ok q2 =>
          obtain ⟨t9, l9⟩ := q2
          obtain ⟨hT9, hb9⟩ := HOK.out t9 l9 hrr
          have hb8 := hblk hb9 (Nat.le_refl _)
          have HREL := Lib.hid (show rdL (fun y l => rdT ws nm lw y l) (rs.take (j + 1)) 4096 = .ok (ts ++ [t9], l9) from by
            rw [HTK.out, rdL_append, HRD.out]
            simp only [rdL, hrr])
          have hTA : TEx (fun k => k < pw + 1 ∨ (Value.slice Aj j cj).ownBlock = some k) (w6.alloc (.cells #[.int .i64 k6, .int .i64 i6, .string ⟨s6.toArray⟩, .slice A6 n6 c6] 37)) (.agg #[.int .i64 k6, .int .i64 i6, .string ⟨s6.toArray⟩, .slice A6 n6 c6]) t9 := (TEx.weak hT9 (fun q hq h9 => by
            rcases h9 with h9 | h9
            · show q < wr.heap.size
              omega
            · show q < wr.heap.size
              exact (own_heap HRI.out.own h9).2.1)).below (below_alloc _ _)
          have hRI9 := HR6.out.add (Nat.le_trans (Nat.lt_of_lt_of_le hpsz HF6.out.size) (below_alloc _ _).size) hTA HO7.out HG7.out HA7.out
          refine wp_world (fun V => RI (pw + 1) V A7 (j + 1) c7 (cs ++ [.int .i64 k6, .int .i64 i6, .string ⟨s6.toArray⟩, .slice A6 n6 c6]) (ts ++ [t9]) ∧ Blk V pw 79 (WC Aw lw cw Aa la ca (some ⟨b', o', none⟩) lr cr (l9 : Int) 0) ∧ Blk V g 29 #[.slice Aw lw cw, .slice Aa la ca, .slice (some ⟨b', o', none⟩) lr cr] ∧ Below W.heap.size W V) ⟨hRI9, hb8, hk7, hbl7⟩ ?_
          clear hrow hblk hbl7 hk7 hrr hb8 hb9 HER HOK HR6 HF6 HO7 HG7 HA7 HW HK HBL HRI HRD HSP HTK hTA hRI9 hT9 HCALL c0 w0
          rintro V8 hV8
          have HEND := Lib.hid hV8
          have e4 : V8.cell? ⟨pw, 4, none⟩ = some (.int .i64 0) := hV8.2.1.cell 4
          clear hV8
          go_wp2
          go_roundw
          case rel => exact ⟨j + 1, l9, A7, c7, _, _, by omega, by go_num, rfl, HREL.out, HEND.out.1, ⟨HEND.out.2.1, HEND.out.2.2.1⟩, HEND.out.2.2.2⟩
          case measure => simp [intOf]; omega
      · obtain rfl : lr = j := by omega
        have hd1 : decide (lr < lr) = false := by simp
        have htl : rs.take lr = rs := List.take_of_length_le (by rw [HH.out.hlr]; exact Nat.le_refl _)
        rw [htl] at hrd
        have HE := Lib.hid (show readP ws nm rs = .ok ts from by rw [HE1.out, hrd])
        have hlt9 : ts.length = lr := by rw [rdL_len hrd, HH.out.hlr]
        have HTL := Lib.hid hlt9
        have HRI := Lib.hid hri
        have HBL := Lib.hid hbl
        clear hrd hri hw hk hbl htl hlt9 HE1
        go_wp2
        refine bodyPost_ret (v := .tuple #[.slice Aj lr cj, .int .i64 0]) (by simp [results, Try.results16, go_sem]) rfl ?_
        rw [HE.out]
        refine ⟨HBL.out, (fun er h => by cases h), fun ts' h => ?_⟩
        cases h
        have h9 := (lex_own (X := fun k => k < pw + 1) HRI.out.own (fun _ h => h) (HRI.out.std.kept (kept_step (Fr.refl (fun _ => False) wr) (fun _ _ h => h.elim) (fun k _ hk => .inl hk)))).1
        exact ⟨Aj, cj, by rw [HTL.out], by rw [HTL.out]; exact h9.weak (fun q _ hq => by show q < pw + 1; have := HGP.out; have := HG.out; omega)⟩
set_option maxHeartbeats 1000000 in
theorem hcheck_v (W : World) (h : HRd W Aw lw cw Aa la ca Ar lr cr ws nm rs) :
    Calls Try.prog 21 #[.agg #[.slice Aw lw cw, .slice Aa la ca, .slice Ar lr cr]] W fun e W' => e = .returned (.int .i64 ((match readP ws nm rs with | .error er => er | .ok _ => 0 : Nat) : Int)) ∧ Below W.heap.size W W' := by
  cases hr : readP ws nm rs with
  | error er =>
    have HC := Lib.hid (fun V (hV : Below W.heap.size W V) => hread_v V (h.below hV))
    rw [hr] at HC
    clear h
    go_enter Try.func21, Try.ntmps21
    go_wp2_with (go_at_call 16; refine (HC.out _ (below_alloc _ _)).mono ?_; rintro e w1 ⟨hb, he, _⟩; obtain ⟨_, rfl⟩ := he er rfl)
    refine bodyPost_ret (v := .int .i64 (er : Int)) (by simp [results, Try.results21, go_sem]) rfl ?_
    exact ⟨rfl, below_step (below_alloc _ _) hb⟩
  | ok ts =>
    have HC := Lib.hid (fun V (hV : Below W.heap.size W V) => hread_v V (h.below hV))
    rw [hr] at HC
    clear h
    go_enter Try.func21, Try.ntmps21
    go_wp2_with (go_at_call 16; refine (HC.out _ (below_alloc _ _)).mono ?_; rintro e w1 ⟨hb, _, he⟩; obtain ⟨A, c, rfl, _⟩ := he ts rfl)
    refine bodyPost_ret (v := .int .i64 0) (by simp [results, Try.results21, go_sem]) rfl ?_
    exact ⟨rfl, below_step (below_alloc _ _) hb⟩
end
end
section
open Go.RowKit
set_option linter.unusedVariables false

theorem Blk.newAt {w : World} {t g : Nat} {cs : Array Value} (h : w.heap.size = g) : Blk (w.alloc (.cells cs t)) g t cs := by rw [← h]; exact Blk.new w t cs
section
variable {W W' : World}
theorem hnum_v (k : Int) (W : World) : Calls Try.prog 12 #[.int .i64 k] W fun e w' => e = .returned (.int .i64 k) ∧ W = w' := by
  go_enter Try.func12, Try.ntmps12
  go_wp2
  go_ret
  exact ⟨rfl, rfl⟩
set_option maxRecDepth 100000 in
set_option maxHeartbeats 1000000 in
theorem rsame_v (xs ys : List Nat) (A B : Option Addr) (n c m d : Nat) (W : World) (hx : RdC W A (xs.map nv)) (hy : RdC W B (ys.map nv)) (hn : xs.length = n) (hm : ys.length = m) (hn9 : n ≤ 1000000) (hm9 : m ≤ 1000000) :
    Calls Try.prog 38 #[.slice A n c, .slice B m d] W fun e w' => e = .returned (.bool (decide (xs = ys))) ∧ Below W.heap.size W w' := by
  have HN := Lib.hid hn
  have HM := Lib.hid hm
  have HX := Lib.hid hx
  have HY := Lib.hid hy
  by_cases hnm : n = m
  rotate_left
  · have HE := Lib.hid (show decide (xs = ys) = false from decide_eq_false (fun h => hnm (by rw [← hn, ← hm, h])))
    have d1 : ((n : Int) == (m : Int)) = false := by simpa using fun h => hnm (by omega)
    have d2 : ((n : Int) != (m : Int)) = true := by simpa using fun h => hnm (by omega)
    clear hn hm hx hy
    go_enter Try.func38, Try.ntmps38
    go_wp2
    go_ret
    exact ⟨by (rw [HE.out]; first | done | rfl), Below.refl _ _⟩
  · subst hnm
    clear hn hm hx hy
    go_enter Try.func38, Try.ntmps38
    go_wp2
    go_loopw [5] (fun i wr => ∃ j : Nat, j ≤ n ∧ i = .int .i64 j ∧ xs.take j = ys.take j ∧ Below W.heap.size W wr) (fun i _ => n - (intOf i).toNat)
    case atStart => exact ⟨0, Nat.zero_le _, rfl, rfl, Below.refl _ _⟩
    case round =>
      obtain ⟨j, hj, rfl, ht, hb⟩ := hrel
      by_cases hlt : j < n
      · have hd1 : decide (j < n) = true := by simp; omega
        obtain ⟨x, hxj⟩ : ∃ x, xs[j]? = some x := ⟨_, List.getElem?_eq_getElem (by rw [HN.out]; exact hlt)⟩
        obtain ⟨y, hyj⟩ : ∃ y, ys[j]? = some y := ⟨_, List.getElem?_eq_getElem (by rw [HM.out]; exact hlt)⟩
        obtain ⟨b1, o1, rfl, c1⟩ := (HX.out.below hb).at_ (j := j) (v := nv x) (by simp [hxj])
        obtain ⟨b2, o2, rfl, c2⟩ := (HY.out.below hb).at_ (j := j) (v := nv y) (by simp [hyj])
        unfold nv at c1 c2
        have hq1 : (0 : Int) ≤ (j : Int) := by omega
        have hq2 : (j : Int) < (n : Int) := by omega
        have HB := Lib.hid hb
        have HT := Lib.hid ht
        have HXJ := Lib.hid hxj
        have HYJ := Lib.hid hyj
        clear hb ht hxj hyj
        by_cases hxy : x = y
        · subst hxy
          go_upto_region 6 with (fail)
          go_quiet (fail)
          go_wp2
          go_roundw
          case rel => exact ⟨j + 1, by omega, by go_num, by rw [List.take_add_one, List.take_add_one, HT.out, HXJ.out, HYJ.out], ⟨HB.out.os, HB.out.tape, HB.out.output, HB.out.size, HB.out.block⟩⟩
          case measure => simp [intOf]; omega
        · have HE := Lib.hid (show decide (xs = ys) = false from decide_eq_false (fun h => hxy (by have h1 := HXJ.out; rw [h, HYJ.out] at h1; exact (Option.some.inj h1).symm)))
          have d1 : ((x : Int) == (y : Int)) = false := by simpa using fun h => hxy (by omega)
          have d2 : ((x : Int) != (y : Int)) = true := by simpa using fun h => hxy (by omega)
          go_upto_region 6 with (fail)
          go_quiet (fail)
          go_wp2
          go_ret
          exact ⟨by (rw [HE.out]; first | done | rfl), ⟨HB.out.os, HB.out.tape, HB.out.output, HB.out.size, HB.out.block⟩⟩
      · obtain rfl : n = j := by omega
        have hd1 : decide (n < n) = false := by simp
        have HE := Lib.hid (show decide (xs = ys) = true from decide_eq_true (by
          have h1 : xs.take n = xs := List.take_of_length_le (by rw [HN.out]; exact Nat.le_refl _)
          have h2 : ys.take n = ys := List.take_of_length_le (by rw [HM.out]; exact Nat.le_refl _)
          rw [h1, h2] at ht
          exact ht))
        go_wp2
        go_ret
        exact ⟨by (rw [HE.out]; first | done | rfl), hb⟩
/-- Are two heaps the same? -/
def sameH (ws rs : List Nat) (nm : List (List UInt8)) (ws' rs' : List Nat) (nm' : List (List UInt8)) : Bool := decide (ws = ws') && decide (rs = rs') && decide (nm = nm')
set_option maxRecDepth 100000 in
set_option maxHeartbeats 2000000 in
theorem rSame_v {Aw Aa Ar : Option Addr} {lw cw la ca lr cr : Nat} {ws rs : List Nat} {nm : List (List UInt8)} {Bw Ba Br : Option Addr} {mw dw ma da mr dr : Nat} {ws' rs' : List Nat} {nm' : List (List UInt8)} (W : World) (h : HRd W Aw lw cw Aa la ca Ar lr cr ws nm rs) (h' : HRd W Bw mw dw Ba ma da Br mr dr ws' nm' rs') (hb1 : lw ≤ 1000000 ∧ la ≤ 1000000 ∧ lr ≤ 1000000) (hb2 : mw ≤ 1000000 ∧ ma ≤ 1000000 ∧ mr ≤ 1000000) :
    Calls Try.prog 19 #[.agg #[.slice Aw lw cw, .slice Aa la ca, .slice Ar lr cr], .agg #[.slice Bw mw dw, .slice Ba ma da, .slice Br mr dr]] W fun e w' => e = .returned (.bool (sameH ws rs nm ws' rs' nm')) ∧ Below W.heap.size W w' := by
  have HH := Lib.hid h
  have HH' := Lib.hid h'
  have HS1 : Hid (∀ V, Below W.heap.size W V → Calls Try.prog 38 #[.slice Aw lw cw, .slice Bw mw dw] V fun e w' => e = .returned (.bool (decide (ws = ws'))) ∧ Below V.heap.size V w') := fun V hV => rsame_v ws ws' Aw Bw lw cw mw dw V (h.below hV).w (h'.below hV).w h.hlw h'.hlw hb1.1 hb2.1
  have HS2 : Hid (∀ V, Below W.heap.size W V → Calls Try.prog 38 #[.slice Ar lr cr, .slice Br mr dr] V fun e w' => e = .returned (.bool (decide (rs = rs'))) ∧ Below V.heap.size V w') := fun V hV => rsame_v rs rs' Ar Br lr cr mr dr V (h.below hV).r (h'.below hV).r h.hlr h'.hlr hb1.2.2 hb2.2.2
  obtain ⟨_, hla9, _⟩ := hb1
  obtain ⟨_, hma9, _⟩ := hb2
  obtain ⟨g, hg⟩ : ∃ g, W.heap.size = g := ⟨_, rfl⟩
  have HG := Lib.hid hg
  have PRE : Hid (∀ (q1 q2 q3 : Bool), decide (ws = ws') = q1 → decide (rs = rs') = q2 → decide (nm = nm') = q3 → sameH ws rs nm ws' rs' nm' = (q1 && q2 && q3)) := fun q1 q2 q3 e1 e2 e3 => by unfold sameH; rw [e1, e2, e3]
  clear h h'
  by_cases e1 : ws = ws'
  rotate_left
  · rw [decide_eq_false e1] at HS1
    have HE := Lib.hid (show sameH ws rs nm ws' rs' nm' = false from by unfold sameH; rw [decide_eq_false e1]; rfl)
    go_enter Try.func19, Try.ntmps19
    go_wp2_with (first
      | (go_at_call 38; (with_reducible refine (HS1.out _ (below_step (below_alloc _ _) (below_alloc _ _))).mono ?_); rintro e w1 ⟨rfl, hb1⟩))
    go_ret
    exact ⟨by (rw [HE.out]; first | done | rfl), below_step (below_step (below_alloc _ _) (below_alloc _ _)) hb1⟩
  rw [decide_eq_true e1] at HS1
  by_cases e2 : rs = rs'
  rotate_left
  · rw [decide_eq_false e2] at HS2
    have HE := Lib.hid (show sameH ws rs nm ws' rs' nm' = false from by unfold sameH; rw [decide_eq_false e2, Bool.and_false]; rfl)
    have HBX := Lib.hid (Blk.new W 29 #[.slice Aw lw cw, .slice Aa la ca, .slice Ar lr cr])
    go_enter Try.func19, Try.ntmps19
    go_upto_region 1 with (fail)
    refine wp_world (fun V => Below W.heap.size W V ∧ Blk V g 29 #[.slice Aw lw cw, .slice Aa la ca, .slice Ar lr cr] ∧ Blk V (g + 1) 29 #[.slice Bw mw dw, .slice Ba ma da, .slice Br mr dr]) ⟨below_step (below_alloc _ _) (below_alloc _ _), by rw [← HG.out]; exact (Blk.new _ _ _).alloc _, by rw [← HG.out]; exact Blk.newAt (by simp)⟩ ?_
    rintro V ⟨hb, hx, hy⟩
    have HBL := Lib.hid hb
    have HX := Lib.hid hx
    have HY := Lib.hid hy
    have x0 := hx.cell 0
    have x2 := hx.cell 2
    have y0 := hy.cell 0
    have y2 := hy.cell 2
    clear hb hx hy hg
    go_wp2_with (first
      | (go_at_call 38; (with_reducible refine (HS1.out _ HBL.out).mono ?_); rintro e w1 ⟨rfl, hb1⟩; have HBL1 := Lib.hid (below_step HBL.out hb1); have x2 := (HX.out.keep hb1).cell 2; have y2 := (HY.out.keep hb1).cell 2; clear hb1)
      | (go_at_call 38; (with_reducible refine (HS2.out _ HBL1.out).mono ?_); rintro e w2 ⟨rfl, hb2⟩))
    go_ret
    exact ⟨by (rw [HE.out]; first | done | rfl), below_step HBL1.out hb2⟩
  rw [decide_eq_true e2] at HS2
  go_enter Try.func19, Try.ntmps19
  go_upto_region 1 with (fail)
  refine wp_world (fun V => Below W.heap.size W V ∧ Blk V g 29 #[.slice Aw lw cw, .slice Aa la ca, .slice Ar lr cr] ∧ Blk V (g + 1) 29 #[.slice Bw mw dw, .slice Ba ma da, .slice Br mr dr]) ⟨below_step (below_alloc _ _) (below_alloc _ _), by rw [← HG.out]; exact (Blk.new _ _ _).alloc _, by rw [← HG.out]; exact Blk.newAt (by simp)⟩ ?_
  rintro V ⟨hb, hx, hy⟩
  have HBL := Lib.hid hb
  have HX := Lib.hid hx
  have HY := Lib.hid hy
  have x0 := hx.cell 0
  have x2 := hx.cell 2
  have y0 := hy.cell 0
  have y2 := hy.cell 2
  clear hb hx hy hg
  by_cases hnm : la = ma
  rotate_left
  · have HE := Lib.hid (show sameH ws rs nm ws' rs' nm' = false from by unfold sameH; rw [decide_eq_false (show ¬ nm = nm' from fun h => hnm (by rw [← HH.out.hla, ← HH'.out.hla, h])), Bool.and_false])
    have d1 : ((la : Int) == (ma : Int)) = false := by simpa using fun h => hnm (by omega)
    have d2 : ((la : Int) != (ma : Int)) = true := by simpa using fun h => hnm (by omega)
    go_wp2_with (first
      | (go_at_call 38; (with_reducible refine (HS1.out _ HBL.out).mono ?_); rintro e w1 ⟨rfl, hb1⟩; have HBL1 := Lib.hid (below_step HBL.out hb1); have HX1 := Lib.hid (HX.out.keep hb1); have HY1 := Lib.hid (HY.out.keep hb1); have x2 := HX1.out.cell 2; have y2 := HY1.out.cell 2; clear hb1)
      | (go_at_call 38; (with_reducible refine (HS2.out _ HBL1.out).mono ?_); rintro e w2 ⟨rfl, hb2⟩; have HBL2 := Lib.hid (below_step HBL1.out hb2); have x1 := (HX1.out.keep hb2).cell 1; have y1 := (HY1.out.keep hb2).cell 1; clear hb2))
    go_ret
    exact ⟨by (rw [HE.out]; first | done | rfl), HBL2.out⟩
  subst hnm
  go_upto_region 3 with (first
      | (go_at_call 38; (with_reducible refine (HS1.out _ HBL.out).mono ?_); rintro e w1 ⟨rfl, hb1⟩; have HBL1 := Lib.hid (below_step HBL.out hb1); have HX1 := Lib.hid (HX.out.keep hb1); have HY1 := Lib.hid (HY.out.keep hb1); have x2 := HX1.out.cell 2; have y2 := HY1.out.cell 2; clear hb1)
      | (go_at_call 38; (with_reducible refine (HS2.out _ HBL1.out).mono ?_); rintro e w2 ⟨rfl, hb2⟩; have HBL2 := Lib.hid (below_step HBL1.out hb2); have HX2 := Lib.hid (HX1.out.keep hb2); have HY2 := Lib.hid (HY1.out.keep hb2); have x1 := HX2.out.cell 1; have y1 := HY2.out.cell 1; clear hb2))
  refine wp_world (fun V => Below W.heap.size W V ∧ Blk V g 29 #[.slice Aw lw cw, .slice Aa la ca, .slice Ar lr cr] ∧ Blk V (g + 1) 29 #[.slice Bw mw dw, .slice Ba la da, .slice Br mr dr]) ⟨HBL2.out, HX2.out, HY2.out⟩ ?_
  clear HBL HX HY HBL1 HX1 HY1 HBL2 HX2 HY2 x0 x2 y0 y2 x1 y1
  rintro V3 ⟨hb, hx, hy⟩
  have HBL := Lib.hid hb
  have HX := Lib.hid hx
  have HY := Lib.hid hy
  clear hb hx hy
  go_wp2
  go_loopw [5] (fun i wr => ∃ j : Nat, j ≤ la ∧ i = .int .i64 j ∧ nm.take j = nm'.take j ∧ Below W.heap.size W wr ∧ Blk wr g 29 #[.slice Aw lw cw, .slice Aa la ca, .slice Ar lr cr] ∧ Blk wr (g + 1) 29 #[.slice Bw mw dw, .slice Ba la da, .slice Br mr dr]) (fun i _ => la - (intOf i).toNat)
  case atStart => exact ⟨0, Nat.zero_le _, rfl, rfl, HBL.out, HX.out, HY.out⟩
  case round =>
    obtain ⟨j, hj, rfl, ht, hb, hx, hy⟩ := hrel
    clear HBL HX HY
    have x1 := hx.cell 1
    have y1 := hy.cell 1
    by_cases hlt : j < la
    · have hd1 : decide (j < la) = true := by simp; omega
      obtain ⟨x, hxj⟩ : ∃ x, nm[j]? = some x := ⟨_, List.getElem?_eq_getElem (by rw [HH.out.hla]; exact hlt)⟩
      obtain ⟨y, hyj⟩ : ∃ y, nm'[j]? = some y := ⟨_, List.getElem?_eq_getElem (by rw [HH'.out.hla]; exact hlt)⟩
      obtain ⟨b1, o1, rfl, c1⟩ := (HH.out.a.below hb).at_ (j := j) (v := hv x) (by simp [hxj])
      obtain ⟨b2, o2, rfl, c2⟩ := (HH'.out.a.below hb).at_ (j := j) (v := hv y) (by simp [hyj])
      unfold hv at c1 c2
      have hq1 : (0 : Int) ≤ (j : Int) := by omega
      have hq2 : (j : Int) < (la : Int) := by omega
      have HB := Lib.hid hb
      have HX := Lib.hid hx
      have HY := Lib.hid hy
      have HT := Lib.hid ht
      have HXJ := Lib.hid hxj
      have HYJ := Lib.hid hyj
      clear hb ht hxj hyj hx hy
      by_cases hxy : x = y
      · subst hxy
        go_upto_region 6 with (fail)
        go_quiet (fail)
        go_wp2
        go_roundw
        case rel => exact ⟨j + 1, by omega, by go_num, by rw [List.take_add_one, List.take_add_one, HT.out, HXJ.out, HYJ.out], ⟨HB.out.os, HB.out.tape, HB.out.output, HB.out.size, HB.out.block⟩, HX.out, HY.out⟩
        case measure => simp [intOf]; omega
      · have HE := Lib.hid (show sameH ws rs nm ws' rs' nm' = false from by unfold sameH; rw [decide_eq_false (show ¬ nm = nm' from fun h => hxy (by have h1 := HXJ.out; rw [h, HYJ.out] at h1; exact (Option.some.inj h1).symm)), Bool.and_false])
        have d1 : (x == y) = false := by simpa using hxy
        have d2 : (x != y) = true := by simpa using hxy
        go_upto_region 6 with (fail)
        go_quiet (fail)
        go_wp2
        go_ret
        exact ⟨by (rw [HE.out]; first | done | rfl), ⟨HB.out.os, HB.out.tape, HB.out.output, HB.out.size, HB.out.block⟩⟩
    · obtain rfl : la = j := by omega
      have hd1 : decide (la < la) = false := by simp
      have HE := Lib.hid (show sameH ws rs nm ws' rs' nm' = true from by
        have h1 : nm.take la = nm := List.take_of_length_le (by rw [HH.out.hla]; exact Nat.le_refl _)
        have h2 : nm'.take la = nm' := List.take_of_length_le (by rw [HH'.out.hla]; exact Nat.le_refl _)
        rw [h1, h2] at ht
        unfold sameH
        rw [decide_eq_true e1, decide_eq_true e2, decide_eq_true ht]
        rfl)
      go_wp2
      go_ret
      exact ⟨by (rw [HE.out]; first | done | rfl), hb⟩
end
end
end Go.Proofs.Ytefnjplfemgibaa
