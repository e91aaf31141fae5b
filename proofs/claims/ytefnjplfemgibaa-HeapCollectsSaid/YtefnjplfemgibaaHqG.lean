/- Heap (layer 9): the document's walker: fail, items. Heap (layer 9): the document's walker's term: what leads nowhere. Written by hqgeng.py. -/
import Derived.Test.YtefnjplfemgibaaHpN
namespace Go.Proofs.Ytefnjplfemgibaa
section
open Go.RowKit
set_option linter.unusedVariables false

section
variable {w0 W W' : World} {pw : Nat} {Aw Aa Ar : Option Addr} {lw cw la ca lr cr : Nat} {ws : List Nat} {nm : List (List UInt8)}
set_option maxHeartbeats 1000000 in
theorem qfail_v {left e : Int} (hB : Blk W pw 83 #[.slice Aw lw cw, .slice Aa la ca, .slice Ar lr cr, .int .i64 left, .int .i64 0]) : Calls Try.prog 71 #[.pointer (some ⟨pw, 0, none⟩), .int .i64 e] W fun r W' => r = .returned (.agg #[.int .i64 0, .int .i64 0, .string ⟨#[]⟩, .slice none 0 0]) ∧ Blk W' pw 83 #[.slice Aw lw cw, .slice Aa la ca, .slice Ar lr cr, .int .i64 left, .int .i64 e] ∧ Fr (fun k => k = pw) W W' := by
  have HB := Lib.hid hB
  clear hB
  obtain ⟨g, hg⟩ : ∃ g, W.heap.size = g := ⟨_, rfl⟩
  have HG := Lib.hid hg
  go_enter Try.func71, Try.ntmps71
  go_upto_region 1 with (fail)
  refine wp_world (fun V => Below W.heap.size W V ∧ Blk V g 37 #[.int .i64 0, .int .i64 0, .string ⟨#[]⟩, .slice none 0 0]) ⟨below_alloc _ _, by rw [← HG.out]; exact Blk.new _ _ _⟩ ?_
  rintro V ⟨hb, hk⟩
  have hw := HB.out.keep hb
  have hgp : g ≠ pw := by have := HB.out.lt; omega
  have HK := Lib.hid hk
  have HW := Lib.hid hw
  have HBL := Lib.hid hb
  have x4 := hw.cell 4
  have xf4 := hw.frozen 4
  clear hb hk hw hg
  go_upto_region 3 with (fail)
  have h1 := HW.out.set_ 4 (.int .i64 e)
  have h2 : Blk (V.setCell ⟨pw, 4, none⟩ (.int .i64 e)) g 37 #[.int .i64 0, .int .i64 0, .string ⟨#[]⟩, .slice none 0 0] := HK.out.far (p := ⟨pw, 4, none⟩) hgp _
  refine wp_world (fun V => Blk V pw 83 #[.slice Aw lw cw, .slice Aa la ca, .slice Ar lr cr, .int .i64 left, .int .i64 e] ∧ Blk V g 37 #[.int .i64 0, .int .i64 0, .string ⟨#[]⟩, .slice none 0 0] ∧ Fr (fun k => k = pw) W V) ⟨by simpa using h1, h2, (Fr.of_below HBL.out _).same (Fr.setCell (fun k => k = pw) V (p := ⟨pw, 4, none⟩) (fun _ => rfl) _)⟩ ?_
  clear h1 h2 x4 xf4 HK HW HBL
  rintro V2 ⟨h1, h2, h3⟩
  have HW := Lib.hid h1
  have HK := Lib.hid h2
  have HF := Lib.hid h3
  have z0 := h2.cell 0
  have z1 := h2.cell 1
  have z2 := h2.cell 2
  have z3 := h2.cell 3
  have zf0 := h2.frozen 0
  have zf1 := h2.frozen 1
  have zf2 := h2.frozen 2
  have zf3 := h2.frozen 3
  clear h1 h2 h3
  go_wp2
  have hB2 := HK.out.set4 (.int .i64 0) (.int .i64 0) (.string ⟨#[]⟩) (.slice none 0 0)
  have y0 := hB2.cell 0
  have y1 := hB2.cell 1
  have y2 := hB2.cell 2
  have y3 := hB2.cell 3
  refine bodyPost_ret (v := .agg #[.int .i64 0, .int .i64 0, .string ⟨#[]⟩, .slice none 0 0]) (by simp [results, Try.results71, go_sem, y0, y1, y2, y3]) rfl ?_
  have hfr := fr_set4 V2 g (.int .i64 0) (.int .i64 0) (.string ⟨#[]⟩) (.slice none 0 0)
  exact ⟨rfl, hfr.blk HW.out (fun e9 => hgp e9.symm), HF.out.trans hfr (fun k hk e9 => by have := HG.out; omega)⟩
/-- What the document's term leaves. -/
def QTE (pw : Nat) (Aw : Option Addr) (lw cw : Nat) (Aa : Option Addr) (la ca : Nat) (Ar : Option Addr) (lr cr : Nat) (W : World) (r : Except Nat (TV × Nat)) (e : Ending) (W' : World) : Prop :=
  Fr (fun k => k = pw) W W' ∧ ∃ (k i : Int) (s : List UInt8) (A : Option Addr) (n c : Nat), e = .returned (.agg #[.int .i64 k, .int .i64 i, .string ⟨s.toArray⟩, .slice A n c]) ∧
    (∀ er, r = .error er → er ≠ 0 ∧ ∃ l : Int, Blk W' pw 83 #[.slice Aw lw cw, .slice Aa la ca, .slice Ar lr cr, .int .i64 l, .int .i64 (er : Int)]) ∧
    (∀ t l, r = .ok (t, l) → TEx (fun k => k < W.heap.size) W' (.agg #[.int .i64 k, .int .i64 i, .string ⟨s.toArray⟩, .slice A n c]) t ∧ Blk W' pw 83 #[.slice Aw lw cw, .slice Aa la ca, .slice Ar lr cr, .int .i64 (l : Int), .int .i64 0])
def QIH (w0 : World) (pw : Nat) (Aw : Option Addr) (lw cw : Nat) (Aa : Option Addr) (la ca : Nat) (Ar : Option Addr) (lr cr : Nat) (ws : List Nat) (nm : List (List UInt8)) (n : Nat) : Prop :=
  ∀ (y left : Nat) (V : World), y < 18446744073709551616 → left ≤ 4096 → Below w0.heap.size w0 V → Blk V pw 83 #[.slice Aw lw cw, .slice Aa la ca, .slice Ar lr cr, .int .i64 (left : Int), .int .i64 0] →
    Calls Try.prog 37 #[.pointer (some ⟨pw, 0, none⟩), .int .u64 (y : Int), .int .i64 (n : Int)] V (QTE pw Aw lw cw Aa la ca Ar lr cr V (rdT ws nm n y left))
set_option maxRecDepth 100000 in
set_option maxHeartbeats 8000000 in
theorem qitems_v (k i : Int) (fr m at_ left : Nat) (items : List Nat) (hit : items = (ws.drop fr).take m) (hfm : fr + m ≤ lw) (W : World) (hleft : left ≤ 4096) (hold : Below w0.heap.size w0 W) (hB : Blk W pw 83 #[.slice Aw lw cw, .slice Aa la ca, .slice Ar lr cr, .int .i64 (left : Int), .int .i64 0]) (hpw : w0.heap.size ≤ pw)
    (hR : RdC w0 Aw (ws.map nv)) (hl : ws.length = lw) (h64 : W64 ws) (hlw : lw ≤ 100000) (hih : QIH w0 pw Aw lw cw Aa la ca Ar lr cr ws nm at_) (R : Except Nat (TV × Nat)) (hRe : R = match rdL (fun y l => rdT ws nm at_ y l) items left with | .error e => .error e | .ok (ts, l1) => .ok (.mk k i [] ts, l1)) :
    Calls Try.prog 75 #[.pointer (some ⟨pw, 0, none⟩), .agg #[.int .i64 k, .int .i64 i, .string ⟨#[]⟩, .slice none 0 0], .int .i64 (fr : Int), .int .i64 (m : Int), .int .i64 (at_ : Int)] W (QTE pw Aw lw cw Aa la ca Ar lr cr W R) := by
  have HRE := Lib.hid hRe
  have hilen : items.length = m := by rw [hit, List.length_take, List.length_drop]; omega
  have hiat : ∀ (j y : Nat), items[j]? = some y → ws[fr + j]? = some y := fun j y hj => by
    rw [hit] at hj
    have hjm : j < m := by
      by_cases h : j < m
      · exact h
      · rw [List.getElem?_eq_none (by rw [List.length_take]; omega)] at hj; cases hj
    rw [List.getElem?_take, if_pos hjm, List.getElem?_drop] at hj
    exact hj
  have HIL := Lib.hid hilen
  have HIA := Lib.hid hiat
  have HIH := Lib.hid hih
  have HB := Lib.hid hB
  have HPW := Lib.hid hB.lt
  have HOLD := Lib.hid hold
  have HR := Lib.hid hR
  have HP0 := Lib.hid hpw
  have H64 := Lib.hid h64
  have HL := Lib.hid hl
  clear hB hold hR h64 hih hpw hit hilen hiat hl hRe
  obtain ⟨tb, htb⟩ : ∃ tb, W.heap.size = tb := ⟨_, rfl⟩
  have HTS := Lib.hid htb
  have HPT : Hid (pw < tb) := by have := HPW.out; unfold Hid; omega
  go_enter Try.func75, Try.ntmps75
  go_upto_region 1 with (fail)
  refine wp_world (fun V => (Blk V tb 37 #[.int .i64 k, .int .i64 i, .string ⟨#[]⟩, .slice none 0 0] ∧ Blk V (tb + 1) 37 #[.int .i64 0, .int .i64 0, .string ⟨#[]⟩, .slice none 0 0]) ∧ Below W.heap.size W V) ⟨⟨(by rw [← HTS.out]; exact (Blk.new _ _ _).alloc _), by rw [← HTS.out]; exact Blk.newAt (by simp)⟩, below_step (below_alloc _ _) (below_alloc _ _)⟩ ?_
  rintro V ⟨⟨h1, h2⟩, h3⟩
  have HTB := Lib.hid h1
  have HK := Lib.hid h2
  have HF := Lib.hid (Fr.of_below h3 (fun k => k = pw))
  have HB := Lib.hid (HB.out.keep h3)
  clear h1 h2 h3 htb
  go_wp2
  go_loopw [11] (fun ix wr => ∃ (j : Nat) (Aj : Option Addr) (nj cj : Nat), j ≤ m ∧ ix = .int .i64 j ∧ Fr (fun k => k = pw) W wr ∧ Blk wr tb 37 #[.int .i64 k, .int .i64 i, .string ⟨#[]⟩, .slice Aj nj cj] ∧ Blk wr (tb + 1) 37 #[.int .i64 0, .int .i64 0, .string ⟨#[]⟩, .slice none 0 0] ∧
    ((∃ (lj : Nat) (cs : List Value) (ts : List TV), nj = j ∧ rdL (fun y l => rdT ws nm at_ y l) (items.take j) left = .ok (ts, lj) ∧ RI (tb + 2) wr Aj j cj cs ts ∧ Blk wr pw 83 #[.slice Aw lw cw, .slice Aa la ca, .slice Ar lr cr, .int .i64 (lj : Int), .int .i64 0]) ∨
      (∃ (er : Nat) (l : Int), er ≠ 0 ∧ rdL (fun y l => rdT ws nm at_ y l) items left = .error er ∧ Blk wr pw 83 #[.slice Aw lw cw, .slice Aa la ca, .slice Ar lr cr, .int .i64 l, .int .i64 (er : Int)]))) (fun ix _ => m - (intOf ix).toNat)
  case atStart => exact ⟨0, none, 0, 0, Nat.zero_le _, rfl, HF.out, HTB.out, HK.out, .inl ⟨left, [], [], rfl, rfl, ⟨World.ownsRow_nil _ _ _ _, std_nil _⟩, HB.out⟩⟩
  case round =>
    obtain ⟨j, Aj, nj, cj, hj, rfl, hf, htb, hk, hcase⟩ := hrel
    clear HB HK HF HTB
    have HF := Lib.hid hf
    have HTB := Lib.hid htb
    have HK := Lib.hid hk
    have hm9 : m ≤ 100000 := by omega
    rcases hcase with ⟨lj, cs, ts, rfl, hrd, hri, hb⟩ | ⟨er, l, hne, hrd, hb⟩
    · by_cases hlt : nj < m
      · have hd1 : decide (nj < m) = true := by simp; omega
        have hkl : nj < items.length := by rw [HIL.out]; exact hlt
        obtain ⟨y, hy⟩ : ∃ y, items[nj]? = some y := ⟨_, List.getElem?_eq_getElem hkl⟩
        have hwy := HIA.out nj y hy
        obtain ⟨bw, ow, rfl, hcy⟩ := HR.out.at_ (j := fr + nj) (v := nv y) (by rw [List.getElem?_map, hwy]; rfl)
        unfold nv at hcy
        have HOW : Hid (Below w0.heap.size w0 wr) := HOLD.out.trans (hf.below HOLD.out.size (fun k hk => by rw [hk]; exact HP0.out))
        have HCY : Hid (∀ V, Fr (fun k => k = pw) wr V → V.cell? ⟨bw, ow + (fr + nj), none⟩ = some (.int .u64 (y : Int))) := fun V hV => ((HOW.out.trans (hV.below HOW.out.size (fun k hk => by rw [hk]; exact HP0.out))).cell (World.block_lt_of_cell? w0 _ hcy)).trans hcy
        have hbw0 := World.block_lt_of_cell? w0 _ hcy
        have HBW1 : Hid (bw ≠ pw) := fun e => by have h8 : bw < w0.heap.size := hbw0; have := HP0.out; omega
        have HBW2 : Hid (bw < tb) := by have h8 : bw < w0.heap.size := hbw0; have := HOLD.out.size; have := HTS.out; unfold Hid; omega
        clear hbw0
        have hy64 : y < 18446744073709551616 := H64.out y (List.mem_of_getElem? hwy)
        have hlj : lj ≤ 4096 := by have := rdL_le (f := fun y l => rdT ws nm at_ y l) (fun y l t l' => rdT_le at_ y l t l') _ _ _ _ hrd; omega
        have htk : items.take (nj + 1) = items.take nj ++ [y] := by rw [List.take_add_one, hy]; rfl
        have hsp : items = items.take nj ++ y :: items.drop (nj + 1) := by
          have h9 := List.getElem?_eq_some_iff.1 hy
          obtain ⟨h8, h7⟩ := h9
          conv => lhs; rw [← List.take_append_drop nj items, List.drop_eq_getElem_cons h8, h7]
        have HRD := Lib.hid hrd
        have HRI := Lib.hid hri
        have HB := Lib.hid hb
        have HTK := Lib.hid htk
        have HSP := Lib.hid hsp
        have x4 := hb.cell 4
        have hbsz : tb + 1 < wr.heap.size := hk.lt
        have HCALL := Lib.hid (HIH.out y lj wr.drew hy64 hlj HOW.out.drew (show Blk wr.drew pw _ _ from hb))
        clear hrd hri hb hf htb hk hcy hy htk hsp hkl hwy
        go_upto_region 4 with (fail)
        clear x4
        refine wp_region_W 18 (fun V => V.cell? ⟨tb, 3, none⟩ = some (.slice Aj nj cj) ∧ V.cell? ⟨pw, 0, none⟩ = some (.slice (some ⟨bw, ow, none⟩) lw cw) ∧ V.cell? ⟨bw, ow + (fr + nj), none⟩ = some (.int .u64 (y : Int))) (by kernel_rfl) ?_ (fun hS0 => ?_)
        · exact ⟨HTB.out.cell 3, HB.out.cell 0, HCY.out _ (Fr.refl _ _).drew⟩
        (refine wpAnyW_take (i := 0) (v := ?_) rfl (by kernel_rfl) (by kernel_rfl) (by kernel_rfl) (by kernel_rfl) (fun _ _ _ h => h) (Or.inl ⟨by kernel_rfl, ?_⟩) (by assumption) ?_; rotate_left; focus (intro V9 hS9; go_simp; (try (with_reducible rfl)); done))
        try simp only [Act.put, List.getElem_toArray, List.getElem_cons_zero, List.setIfInBounds_toArray, List.set_cons_succ, List.set_cons_zero]
        (refine wpAnyW_take (i := 1) (v := ?_) rfl (by kernel_rfl) (by kernel_rfl) (by kernel_rfl) (by kernel_rfl) (fun _ _ _ h => h) (Or.inl ⟨by kernel_rfl, ?_⟩) (by assumption) ?_; rotate_left; focus (intro V9 hS9; obtain ⟨g9, g8, g7⟩ := hS9; go_simp; (try (with_reducible rfl)); done))
        try simp only [Act.put, List.getElem_toArray, List.getElem_cons_succ, List.getElem_cons_zero, List.setIfInBounds_toArray, List.set_cons_succ, List.set_cons_zero]
        (refine wpAnyW_take (i := 2) (v := ?_) rfl (by kernel_rfl) (by kernel_rfl) (by kernel_rfl) (by kernel_rfl) (fun _ _ _ h => h) (Or.inl ⟨by kernel_rfl, ?_⟩) (by assumption) ?_; rotate_left; focus (intro V9 hS9; go_simp; (try (with_reducible rfl)); done))
        try simp only [Act.put, List.getElem_toArray, List.getElem_cons_succ, List.getElem_cons_zero, List.setIfInBounds_toArray, List.set_cons_succ, List.set_cons_zero]
        (refine wpAnyW_take (i := 3) (v := ?_) rfl (by kernel_rfl) (by kernel_rfl) (by kernel_rfl) (by kernel_rfl) (fun _ _ _ h => h) (Or.inl ⟨by kernel_rfl, ?_⟩) (by assumption) ?_; rotate_left; focus (intro V9 hS9; go_simp; (try (with_reducible rfl)); done))
        try simp only [Act.put, List.getElem_toArray, List.getElem_cons_succ, List.getElem_cons_zero, List.setIfInBounds_toArray, List.set_cons_succ, List.set_cons_zero]
        (refine wpAnyW_take (i := 4) (v := ?_) rfl (by kernel_rfl) (by kernel_rfl) (by kernel_rfl) (by kernel_rfl) (fun _ _ _ h => h) (Or.inl ⟨by kernel_rfl, ?_⟩) (by assumption) ?_; rotate_left; focus (intro V9 hS9; go_simp; (try (with_reducible rfl)); done))
        try simp only [Act.put, List.getElem_toArray, List.getElem_cons_succ, List.getElem_cons_zero, List.setIfInBounds_toArray, List.set_cons_succ, List.set_cons_zero]
        (refine wpAnyW_take (i := 5) (v := ?_) rfl (by kernel_rfl) (by kernel_rfl) (by kernel_rfl) (by kernel_rfl) (fun _ _ _ h => h) (Or.inl ⟨by kernel_rfl, ?_⟩) (by assumption) ?_; rotate_left; focus (intro V9 hS9; go_simp; (try (with_reducible rfl)); done))
        try simp only [Act.put, List.getElem_toArray, List.getElem_cons_succ, List.getElem_cons_zero, List.setIfInBounds_toArray, List.set_cons_succ, List.set_cons_zero]
        (refine wpAnyW_take (i := 6) (v := ?_) rfl (by kernel_rfl) (by kernel_rfl) (by kernel_rfl) (by kernel_rfl) (fun _ _ _ h => h) (Or.inl ⟨by kernel_rfl, ?_⟩) (by assumption) ?_; rotate_left; focus (intro V9 hS9; go_simp; (try (with_reducible rfl)); done))
        try simp only [Act.put, List.getElem_toArray, List.getElem_cons_succ, List.getElem_cons_zero, List.setIfInBounds_toArray, List.set_cons_succ, List.set_cons_zero]
        (refine wpAnyW_take (i := 7) (v := ?_) rfl (by kernel_rfl) (by kernel_rfl) (by kernel_rfl) (by kernel_rfl) (fun _ _ _ h => h) (Or.inl ⟨by kernel_rfl, ?_⟩) (by assumption) ?_; rotate_left; focus (intro V9 hS9; obtain ⟨g9, g8, g7⟩ := hS9; go_simp; (try (with_reducible rfl)); done))
        try simp only [Act.put, List.getElem_toArray, List.getElem_cons_succ, List.getElem_cons_zero, List.setIfInBounds_toArray, List.set_cons_succ, List.set_cons_zero]
        (refine wpAnyW_take (i := 8) (v := ?_) rfl (by kernel_rfl) (by kernel_rfl) (by kernel_rfl) (by kernel_rfl) (fun _ _ _ h => h) (Or.inl ⟨by kernel_rfl, ?_⟩) (by assumption) ?_; rotate_left; focus (intro V9 hS9; go_simp; (try (with_reducible rfl)); done))
        try simp only [Act.put, List.getElem_toArray, List.getElem_cons_succ, List.getElem_cons_zero, List.setIfInBounds_toArray, List.set_cons_succ, List.set_cons_zero]
        (refine wpAnyW_take (i := 9) (v := ?_) rfl (by kernel_rfl) (by kernel_rfl) (by kernel_rfl) (by kernel_rfl) (fun _ _ _ h => h) (Or.inl ⟨by kernel_rfl, ?_⟩) (by assumption) ?_; rotate_left; focus (intro V9 hS9; go_simp; (try (with_reducible rfl)); done))
        try simp only [Act.put, List.getElem_toArray, List.getElem_cons_succ, List.getElem_cons_zero, List.setIfInBounds_toArray, List.set_cons_succ, List.set_cons_zero]
        have hw1 : IntKind.i64.wrap ((fr : Int) + (nj : Int)) = (fr : Int) + (nj : Int) := by rw [IntKind.wrap_i64]; omega
        have hw2 : (0 : Int) ≤ (fr : Int) + (nj : Int) := by omega
        have hw3 : (fr : Int) + (nj : Int) < (lw : Int) := by omega
        have hw4 : ((fr : Int) + (nj : Int)).toNat = fr + nj := by omega
        (refine wpAnyW_take (i := 10) (v := ?_) rfl (by kernel_rfl) (by kernel_rfl) (by kernel_rfl) (by kernel_rfl) (fun _ _ _ h => h) (Or.inl ⟨by kernel_rfl, ?_⟩) (by assumption) ?_; rotate_left; focus (intro V9 hS9; go_simp; (try (with_reducible rfl)); done))
        try simp only [Act.put, List.getElem_toArray, List.getElem_cons_succ, List.getElem_cons_zero, List.setIfInBounds_toArray, List.set_cons_succ, List.set_cons_zero]
        (refine wpAnyW_take (i := 11) (v := ?_) rfl (by kernel_rfl) (by kernel_rfl) (by kernel_rfl) (by kernel_rfl) (fun _ _ _ h => h) (Or.inl ⟨by kernel_rfl, ?_⟩) (by assumption) ?_; rotate_left; focus (intro V9 hS9; go_simp; (try (with_reducible rfl)); done))
        try simp only [Act.put, List.getElem_toArray, List.getElem_cons_succ, List.getElem_cons_zero, List.setIfInBounds_toArray, List.set_cons_succ, List.set_cons_zero]
        (refine wpAnyW_take (i := 12) (v := ?_) rfl (by kernel_rfl) (by kernel_rfl) (by kernel_rfl) (by kernel_rfl) (fun _ _ _ h => h) (Or.inl ⟨by kernel_rfl, ?_⟩) (by assumption) ?_; rotate_left; focus (intro V9 hS9; obtain ⟨g9, g8, g7⟩ := hS9; go_simp; (try (with_reducible rfl)); done))
        try simp only [Act.put, List.getElem_toArray, List.getElem_cons_succ, List.getElem_cons_zero, List.setIfInBounds_toArray, List.set_cons_succ, List.set_cons_zero]
        (refine wpAnyW_take (i := 13) (v := ?_) rfl (by kernel_rfl) (by kernel_rfl) (by kernel_rfl) (by kernel_rfl) (fun _ _ _ h => h) (Or.inl ⟨by kernel_rfl, ?_⟩) (by assumption) ?_; rotate_left; focus (intro V9 hS9; go_simp; (try (with_reducible rfl)); done))
        try simp only [Act.put, List.getElem_toArray, List.getElem_cons_succ, List.getElem_cons_zero, List.setIfInBounds_toArray, List.set_cons_succ, List.set_cons_zero]
        refine wpAnyW_ready (rs := [14]) (by kernel_rfl) (by simp) ?_
        refine AllReadyW.cons rfl (fun K hK => ?_) AllReadyW.nil
        go_simp
        refine HCALL.out.mono ?_
        rintro r w6 ⟨hf6, k6, i6, s6, A6, n6, c6, rfl, her, hok⟩
        have hfA : Fr (fun k => k = pw) wr w6 := ⟨hf6.os, hf6.tape, hf6.output, hf6.size, hf6.block⟩
        have hT6 : Blk w6 tb _ _ := hfA.blk HTB.out (fun e => by have h9 : tb = pw := e; have := HPT.out; omega)
        have hK6 : Blk w6 (tb + 1) _ _ := hfA.blk HK.out (fun e => by have h9 : tb + 1 = pw := e; have := HPT.out; omega)
        have hP6 : ∃ l e : Int, Blk w6 pw 83 #[.slice (some ⟨bw, ow, none⟩) lw cw, .slice Aa la ca, .slice Ar lr cr, .int .i64 l, .int .i64 e] := by
          cases hrr : rdT ws nm at_ y lj with
          | error er => obtain ⟨_, l, h9⟩ := her er hrr; exact ⟨l, _, h9⟩
          | ok q => obtain ⟨_, h9⟩ := hok q.1 q.2 hrr; exact ⟨_, _, h9⟩
        obtain ⟨l6, e6, hP6⟩ := hP6
        refine hK.out _ _ ⟨hT6.cell 3, hP6.cell 0, HCY.out w6 hfA⟩ (fun _ => ?_)
        clear hK K
        try simp only [Act.put, List.getElem_toArray, List.getElem_cons_succ, List.getElem_cons_zero, List.setIfInBounds_toArray, List.set_cons_succ, List.set_cons_zero]
        refine wpAnyW_ready (rs := [15]) (by kernel_rfl) (by simp) ?_
        refine AllReadyW.cons rfl (fun K hK => ?_) AllReadyW.nil
        go_simp
        refine hK.out _ _ ⟨(hT6.alloc _).cell 3, (hP6.alloc _).cell 0, HCY.out _ (hfA.same (Fr.alloc _ _ _))⟩ (fun _ => ?_)
        clear hK K
        try simp only [Act.put, List.getElem_toArray, List.getElem_cons_succ, List.getElem_cons_zero, List.setIfInBounds_toArray, List.set_cons_succ, List.set_cons_zero]
        have hR6 := (HRI.out.step hfA (fun k hk => by rw [hk]; have := HPT.out; omega)).step (Fr.alloc (fun _ => False) w6 (.cells #[.int .i64 k6, .int .i64 i6, .string ⟨s6.toArray⟩, .slice A6 n6 c6] 37)) (fun _ h => h.elim)
        have hsz6 : tb + 2 ≤ w6.heap.size := hK6.lt
        refine wpAnyW_ready (rs := [16]) (by kernel_rfl) (by simp) ?_
        refine AllReadyW.cons rfl (fun K hK => ?_) AllReadyW.nil
        refine step_appO termT (by kernel_rfl) (.tmp 25) (.tmp 39) rfl (tb + 2) nj cs (.slice Aj nj cj) hR6.own (some ⟨w6.heap.size, 0, none⟩) 1 1 [.int .i64 k6, .int .i64 i6, .string ⟨s6.toArray⟩, .slice A6 n6 c6] (by rfl) (by rfl) rfl (blk_cs (Blk.new w6 _ _)) (by intro u hu; simp only [List.mem_cons, List.mem_nil_iff, or_false] at hu; rcases hu with rfl | rfl | rfl | rfl <;> rfl) (by unfold maxLen; omega) (by omega) (Nat.le_trans hsz6 (below_alloc _ _).size) ?_
        intro v7 w7 ho7 hg7 hat7
        have hrow : ∀ q, (Value.slice Aj nj cj).ownBlock = some q → tb + 1 < q := fun q hq => (own_heap hR6.own hq).1
        have hT7 := (hT6.alloc (.cells #[.int .i64 k6, .int .i64 i6, .string ⟨s6.toArray⟩, .slice A6 n6 c6] 37)).grown hg7 (fun e => by have := hrow tb e.symm; omega)
        have hP7 := (hP6.alloc (.cells #[.int .i64 k6, .int .i64 i6, .string ⟨s6.toArray⟩, .slice A6 n6 c6] 37)).grown hg7 (fun e => by have := hrow pw e.symm; have := HPT.out; omega)
        have hf7 : Fr (fun k => k = pw ∨ tb + 1 < k) wr w7 := ((hfA.weak (fun _ _ h => .inl h)).same (Fr.alloc _ w6 (.cells #[.int .i64 k6, .int .i64 i6, .string ⟨s6.toArray⟩, .slice A6 n6 c6] 37))).same (Fr.of_grown hg7 (fun q hq _ => .inr (hrow q hq)))
        have hcy7 : w7.cell? ⟨bw, ow + (fr + nj), none⟩ = some (.int .u64 (y : Int)) := by
          have h9 := HCY.out wr (Fr.refl _ _)
          exact (World.cell?_of_block (hf7.block bw (World.block_lt_of_cell? wr _ h9) (fun e => by
            rcases e with e | e
            · exact HBW1.out e
            · exact Nat.lt_irrefl _ (Nat.lt_trans (Nat.lt_trans (Nat.lt_succ_self _) e) HBW2.out)))).trans h9
        refine hK.out _ _ ⟨hT7.cell 3, hP7.cell 0, hcy7⟩ (fun _ => ?_)
        clear hK K
        try simp only [Act.put, List.getElem_toArray, List.getElem_cons_succ, List.getElem_cons_zero, List.setIfInBounds_toArray, List.set_cons_succ, List.set_cons_zero]
        obtain ⟨A7, c7, rfl⟩ := own_sl ho7
        (refine wpAnyW_take (i := 17) (v := ?_) rfl (by kernel_rfl) (by kernel_rfl) (by kernel_rfl) (by kernel_rfl) (fun _ _ _ h => h) (Or.inl ⟨by kernel_rfl, ?_⟩) (by assumption) ?_; rotate_left; focus (intro V9 hS9; go_simp; (try (with_reducible rfl)); done))
        try simp only [Act.put, List.getElem_toArray, List.getElem_cons_succ, List.getElem_cons_zero, List.setIfInBounds_toArray, List.set_cons_succ, List.set_cons_zero]
        refine wpAnyW_ready (rs := [18]) (by kernel_rfl) (by simp) ?_
        refine AllReadyW.consE rfl (by kernel_rfl) (fun K hK => ?_) AllReadyW.nil
        have hfz := hT7.frozen 3
        have gc : w7.cell? ⟨tb, 3, none⟩ = some (.slice Aj nj cj) := hT7.cell 3
        go_simp
        refine hK.out _ _ ?_
        clear hK K
        refine wpAnyW_done (by kernel_rfl) ?_ _
        have hfB : Fr (fun k => k = pw ∨ tb ≤ k) w6 (w7.setCell ⟨tb, 3, none⟩ (.slice A7 (nj + 1) c7)) := ((Fr.alloc _ w6 (.cells #[.int .i64 k6, .int .i64 i6, .string ⟨s6.toArray⟩, .slice A6 n6 c6] 37)).same (Fr.of_grown hg7 (fun q hq _ => .inr (by have := hrow q hq; omega)))).same (Fr.setCell _ w7 (p := ⟨tb, 3, none⟩) (fun _ => .inr (Nat.le_refl _)) _)
        have hT8 : Blk (w7.setCell ⟨tb, 3, none⟩ (.slice A7 (nj + 1) c7)) tb 37 #[.int .i64 k, .int .i64 i, .string ⟨#[]⟩, .slice A7 (nj + 1) c7] := hT7.set_ 3 (.slice A7 (nj + 1) c7)
        have hblk : ∀ {q t' : Nat} {cc : Array Value}, Blk w6 q t' cc → q ≠ tb → q ≤ tb + 1 → Blk (w7.setCell ⟨tb, 3, none⟩ (.slice A7 (nj + 1) c7)) q t' cc := fun {q t' cc} h9 hq hq2 => by
          have h8 := ((h9.alloc (.cells #[.int .i64 k6, .int .i64 i6, .string ⟨s6.toArray⟩, .slice A6 n6 c6] 37)).grown hg7 (fun e => by have := hrow q e.symm; omega)).far (p := ⟨tb, 3, none⟩) (fun e => by have h7 : q = tb := e; omega) (.slice A7 (nj + 1) c7)
          exact h8
        have hg8 := hblk hK6 (by omega) (by omega)
        have hF8 : Fr (fun k => k = pw) W (w7.setCell ⟨tb, 3, none⟩ (.slice A7 (nj + 1) c7)) := (HF.out.same hfA).trans hfB (fun k hk h9 => by rcases h9 with h9 | h9; exact h9; have := HTS.out; omega)
        cases hrr : rdT ws nm at_ y lj with
        | error er =>
          obtain ⟨hne, l9, hb9⟩ := her er hrr
          have hb8 := hblk hb9 (by have := HPT.out; omega) (by have := HPT.out; omega)
          have HEND := Lib.hid (show Fr (fun k => k = pw) W (w7.setCell ⟨tb, 3, none⟩ (.slice A7 (nj + 1) c7)) ∧ Blk (w7.setCell ⟨tb, 3, none⟩ (.slice A7 (nj + 1) c7)) tb 37 #[.int .i64 k, .int .i64 i, .string ⟨#[]⟩, .slice A7 (nj + 1) c7] ∧ Blk (w7.setCell ⟨tb, 3, none⟩ (.slice A7 (nj + 1) c7)) (tb + 1) 37 #[.int .i64 0, .int .i64 0, .string ⟨#[]⟩, .slice none 0 0] ∧ er ≠ 0 ∧ rdL (fun y l => rdT ws nm at_ y l) items left = .error er ∧ Blk (w7.setCell ⟨tb, 3, none⟩ (.slice A7 (nj + 1) c7)) pw 83 #[.slice (some ⟨bw, ow, none⟩) lw cw, .slice Aa la ca, .slice Ar lr cr, .int .i64 l9, .int .i64 (er : Int)] from ⟨hF8, hT8, hg8, hne, by
            rw [HSP.out, rdL_append, HRD.out]
            simp only [rdL, hrr], hb8⟩)
          clear her hok hfz gc hT6 hT7 hT8 hR6 ho7 hg7 hat7 hf6 hfA hfB hb8 hg8 hF8 hblk hb9 hrow hrr hne hP6 hP7 hK6 hf7 hcy7 hS0
          go_wp2
          go_roundw
          case rel => exact ⟨nj + 1, A7, nj + 1, c7, by omega, by go_num, HEND.out.1, HEND.out.2.1, HEND.out.2.2.1, .inr ⟨er, l9, HEND.out.2.2.2.1, HEND.out.2.2.2.2.1, HEND.out.2.2.2.2.2⟩⟩
          case measure => simp [intOf]; omega
        | ok q2 =>
          obtain ⟨t9, l9⟩ := q2
          obtain ⟨hT9, hb9⟩ := hok t9 l9 hrr
          have hb8 := hblk hb9 (by have := HPT.out; omega) (by have := HPT.out; omega)
          have hTA : TEx (fun k => k < tb + 2 ∨ (Value.slice Aj nj cj).ownBlock = some k) (w6.alloc (.cells #[.int .i64 k6, .int .i64 i6, .string ⟨s6.toArray⟩, .slice A6 n6 c6] 37)) (.agg #[.int .i64 k6, .int .i64 i6, .string ⟨s6.toArray⟩, .slice A6 n6 c6]) t9 := (TEx.weak hT9 (fun q hq h9 => by
            rcases h9 with h9 | h9
            · show q < wr.heap.size
              omega
            · show q < wr.heap.size
              exact (own_heap HRI.out.own h9).2.1)).below (below_alloc _ _)
          have hRI9 := (hR6.add (Nat.le_trans hsz6 (below_alloc _ _).size) hTA ho7 hg7 hat7).step (Fr.setCell (fun k => k = tb) w7 (p := ⟨tb, 3, none⟩) (fun _ => rfl) (.slice A7 (nj + 1) c7)) (fun k hk => by rw [hk]; omega)
          have HEND := Lib.hid (And.intro hF8 (And.intro hT8 (And.intro hg8 (And.intro (show rdL (fun y l => rdT ws nm at_ y l) (items.take (nj + 1)) left = .ok (ts ++ [t9], l9) from by
            rw [HTK.out, rdL_append, HRD.out]
            simp only [rdL, hrr]) (And.intro hRI9 hb8)))))
          clear her hok hfz gc hT6 hT7 hT8 hR6 ho7 hg7 hat7 hf6 hfA hfB hb8 hg8 hF8 hblk hb9 hrow hrr hTA hRI9 hT9 hP6 hP7 hK6 hf7 hcy7 hS0
          go_wp2
          go_roundw
          case rel => exact ⟨nj + 1, A7, nj + 1, c7, by omega, by go_num, HEND.out.1, HEND.out.2.1, HEND.out.2.2.1, .inl ⟨l9, _, _, rfl, HEND.out.2.2.2.1, HEND.out.2.2.2.2.1, HEND.out.2.2.2.2.2⟩⟩
          case measure => simp [intOf]; omega
      · obtain rfl : m = nj := by omega
        have hd1 : decide (m < m) = false := by simp
        rw [List.take_of_length_le (by rw [HIL.out]; exact Nat.le_refl _)] at hrd
        have b0 := htb.cell 0
        have b1 := htb.cell 1
        have b2 := htb.cell 2
        have b3 := htb.cell 3
        have z0 := hk.cell 0
        have z1 := hk.cell 1
        have z2 := hk.cell 2
        have z3 := hk.cell 3
        have zf0 := hk.frozen 0
        have zf1 := hk.frozen 1
        have zf2 := hk.frozen 2
        have zf3 := hk.frozen 3
        have HRD := Lib.hid hrd
        have HRI := Lib.hid hri
        have HB := Lib.hid hb
        clear hrd hri hb hf htb hk
        go_wp2
        have hB2 := HK.out.set4 (.int .i64 k) (.int .i64 i) (.string ⟨#[]⟩) (.slice Aj m cj)
        have y0 := hB2.cell 0
        have y1 := hB2.cell 1
        have y2 := hB2.cell 2
        have y3 := hB2.cell 3
        have hfr := fr_set4 wr (tb + 1) (.int .i64 k) (.int .i64 i) (.string ⟨#[]⟩) (.slice Aj m cj)
        refine bodyPost_ret (v := .agg #[.int .i64 k, .int .i64 i, .string ⟨#[]⟩, .slice Aj m cj]) (by simp [results, Try.results75, go_sem, y0, y1, y2, y3]) rfl ?_
        rw [HRE.out, HRD.out]
        refine ⟨HF.out.trans hfr (fun k hk e => by have := HTS.out; omega), k, i, [], Aj, m, cj, rfl, (fun er h => by cases h), fun t' l' h => ?_⟩
        simp only [Except.ok.injEq, Prod.mk.injEq] at h
        obtain ⟨rfl, rfl⟩ := h
        refine ⟨?_, hfr.blk HB.out (fun e => by have h9 : pw = tb + 1 := e; have := HPT.out; omega)⟩
        exact ((HRI.out.val k i).step hfr (fun q _ hq => by show q < tb + 2; omega)).weak (fun q _ hq => by show q < tb + 2; have := HTS.out; omega)
    · have hne2 : ((er : Int) == 0) = false := by simpa using hne
      have x4 := hb.cell 4
      have b0 := htb.cell 0
      have b1 := htb.cell 1
      have b2 := htb.cell 2
      have b3 := htb.cell 3
      have z0 := hk.cell 0
      have z1 := hk.cell 1
      have z2 := hk.cell 2
      have z3 := hk.cell 3
      have zf0 := hk.frozen 0
      have zf1 := hk.frozen 1
      have zf2 := hk.frozen 2
      have zf3 := hk.frozen 3
      have HRD := Lib.hid hrd
      have HB := Lib.hid hb
      have HNE := Lib.hid hne
      clear hrd hb hf htb hk hne
      by_cases hlt : j < m
      · have hd1 : decide (j < m) = true := by simp; omega
        go_wp2
        have hB2 := HK.out.set4 (.int .i64 k) (.int .i64 i) (.string ⟨#[]⟩) (.slice Aj nj cj)
        have y0 := hB2.cell 0
        have y1 := hB2.cell 1
        have y2 := hB2.cell 2
        have y3 := hB2.cell 3
        have hfr := fr_set4 wr (tb + 1) (.int .i64 k) (.int .i64 i) (.string ⟨#[]⟩) (.slice Aj nj cj)
        refine bodyPost_ret (v := .agg #[.int .i64 k, .int .i64 i, .string ⟨#[]⟩, .slice Aj nj cj]) (by simp [results, Try.results75, go_sem, y0, y1, y2, y3]) rfl ?_
        rw [HRE.out, HRD.out]
        refine ⟨HF.out.trans hfr (fun k hk e => by have := HTS.out; omega), k, i, [], Aj, nj, cj, rfl, (fun er' h => ?_), fun t l h => by cases h⟩
        cases h
        exact ⟨HNE.out, l, hfr.blk HB.out (fun e => by have h9 : pw = tb + 1 := e; have := HPT.out; omega)⟩
      · obtain rfl : m = j := by omega
        have hd1 : decide (m < m) = false := by simp
        go_wp2
        have hB2 := HK.out.set4 (.int .i64 k) (.int .i64 i) (.string ⟨#[]⟩) (.slice Aj nj cj)
        have y0 := hB2.cell 0
        have y1 := hB2.cell 1
        have y2 := hB2.cell 2
        have y3 := hB2.cell 3
        have hfr := fr_set4 wr (tb + 1) (.int .i64 k) (.int .i64 i) (.string ⟨#[]⟩) (.slice Aj nj cj)
        refine bodyPost_ret (v := .agg #[.int .i64 k, .int .i64 i, .string ⟨#[]⟩, .slice Aj nj cj]) (by simp [results, Try.results75, go_sem, y0, y1, y2, y3]) rfl ?_
        rw [HRE.out, HRD.out]
        refine ⟨HF.out.trans hfr (fun k hk e => by have := HTS.out; omega), k, i, [], Aj, nj, cj, rfl, (fun er' h => ?_), fun t l h => by cases h⟩
        cases h
        exact ⟨HNE.out, l, hfr.blk HB.out (fun e => by have h9 : pw = tb + 1 := e; have := HPT.out; omega)⟩
end
end
section
open Go.RowKit
set_option linter.unusedVariables false

section
variable {w0 W W' : World} {pw : Nat} {Aw Aa Ar : Option Addr} {lw cw la ca lr cr : Nat} {ws : List Nat} {nm : List (List UInt8)}
set_option maxHeartbeats 1000000 in
theorem tpid_v (n : Int) (W : World) : Calls Try.prog 73 #[.int .i64 n] W fun e w' => e = .returned (.agg #[.int .i64 5, .int .i64 n, .string ⟨#[]⟩, .slice none 0 0]) ∧ Below W.heap.size W w' := by
  go_enter Try.func73, Try.ntmps73
  go_wp2
  exact bodyPost_ret (v := .agg #[.int .i64 5, .int .i64 n, .string ⟨#[]⟩, .slice none 0 0]) (by simp [results, Try.results73, go_sem]) rfl ⟨rfl, below_alloc _ _⟩
set_option maxHeartbeats 1000000 in
theorem tref_v (n : Int) (W : World) : Calls Try.prog 74 #[.int .i64 n] W fun e w' => e = .returned (.agg #[.int .i64 3, .int .i64 n, .string ⟨#[]⟩, .slice none 0 0]) ∧ Below W.heap.size W w' := by
  go_enter Try.func74, Try.ntmps74
  go_wp2
  exact bodyPost_ret (v := .agg #[.int .i64 3, .int .i64 n, .string ⟨#[]⟩, .slice none 0 0]) (by simp [results, Try.results74, go_sem]) rfl ⟨rfl, below_alloc _ _⟩
set_option maxRecDepth 100000 in
set_option maxHeartbeats 4000000 in
theorem qterm0 (ahead x l1 : Nat) (W : World) (hx : x < 18446744073709551616) (hxt : x % 8 = 0) (hleft : l1 + 1 ≤ 4096) (hold : Below w0.heap.size w0 W) (hB : Blk W pw 83 #[.slice Aw lw cw, .slice Aa la ca, .slice Ar lr cr, .int .i64 ((l1 + 1 : Nat) : Int), .int .i64 0]) (hpw : w0.heap.size ≤ pw) (hR : RdC w0 Aw (ws.map nv)) (hN : RdC w0 Aa (nm.map hv)) (hl : ws.length = lw) (hln : nm.length = la) (h64 : W64 ws) (hlw : lw ≤ 100000) (hla : la ≤ 100000) (ha : ahead ≤ lw) :
    Calls Try.prog 37 #[.pointer (some ⟨pw, 0, none⟩), .int .u64 (x : Int), .int .i64 (ahead : Int)] W (QTE pw Aw lw cw Aa la ca Ar lr cr W (rdT ws nm ahead x (l1 + 1))) := by
  have HB := Lib.hid hB
  have HPW := Lib.hid hB.lt
  have HOLD := Lib.hid hold
  have HR := Lib.hid hR
  have HN := Lib.hid hN
  have HP0 := Lib.hid hpw
  have HH := Lib.hid (And.intro hl (And.intro hln h64))
  have HTG := Lib.hid (show wrap64 (bits BinOp.and IntKind.u64 (x : Int) 7) = 0 from by rw [and7 x hx, hxt]; rfl)
  have HXN := Lib.hid (show (x : Int) / 8 = ((x / 8 : Nat) : Int) by omega)
  have hn61 : x / 8 < 2305843009213693952 := by omega
  have HE0 := Lib.hid (show rdT ws nm ahead x (l1 + 1) = if 0 < 5 then (match leafP nm (x / 8) 0 with | none => .error 90 | some t => .ok (t, l1)) else if h : x / 8 < ahead then (match cellP ws (x / 8) 0 with | none => .error 90 | some (k, i, items) => match rdL (fun y l => rdT ws nm (x / 8) y l) items l1 with | .error e => .error e | .ok (ts, l1) => .ok (.mk k i [] ts, l1)) else .error 90 from by rw [rdT, hxt]; rw [if_neg (by omega)]; rfl)
  clear hB hold hR hN hl hln h64 hpw hxt
  obtain ⟨g, hg⟩ : ∃ g, W.heap.size = g := ⟨_, rfl⟩
  have HG := Lib.hid hg
  have HGP : Hid (g ≠ pw) := by have := HPW.out; unfold Hid; omega
  go_enter Try.func37, Try.ntmps37
  go_upto_region 1 with (fail)
  refine wp_world (fun V => Below W.heap.size W V ∧ Blk V g 37 #[.int .i64 0, .int .i64 0, .string ⟨#[]⟩, .slice none 0 0]) ⟨below_alloc _ _, by rw [← HG.out]; exact Blk.new _ _ _⟩ ?_
  rintro V ⟨hb, hk⟩
  have HK := Lib.hid hk
  have HBL := Lib.hid hb
  have HB := Lib.hid (HB.out.keep hb)
  have x3 := HB.out.cell 3
  have xf3 := HB.out.frozen 3
  have x4 := HB.out.cell 4
  clear hb hk hg
  have hset : Hid (∀ l : Int, Blk (V.setCell ⟨pw, 3, none⟩ (.int .i64 l)) pw 83 #[.slice Aw lw cw, .slice Aa la ca, .slice Ar lr cr, .int .i64 l, .int .i64 0] ∧ Blk (V.setCell ⟨pw, 3, none⟩ (.int .i64 l)) g 37 #[.int .i64 0, .int .i64 0, .string ⟨#[]⟩, .slice none 0 0] ∧ Fr (fun k => k = pw) W (V.setCell ⟨pw, 3, none⟩ (.int .i64 l))) := fun l =>
    ⟨HB.out.set_ 3 (.int .i64 l), HK.out.far (p := ⟨pw, 3, none⟩) HGP.out _, (Fr.of_below HBL.out _).same (Fr.setCell (fun k => k = pw) V (p := ⟨pw, 3, none⟩) (fun _ => rfl) _)⟩
  go_upto_region 8 with (fail)
  rw [HTG.out, HXN.out]
  refine wp_world (fun V => Blk V pw 83 #[.slice Aw lw cw, .slice Aa la ca, .slice Ar lr cr, .int .i64 (l1 : Int), .int .i64 0] ∧ Blk V g 37 #[.int .i64 0, .int .i64 0, .string ⟨#[]⟩, .slice none 0 0] ∧ Fr (fun k => k = pw) W V) (hset.out (l1 : Int)) ?_
  clear hset x3 xf3 x4 HB HK HBL
  rintro V ⟨h1, h2, h3⟩
  have HB := Lib.hid h1
  have HK := Lib.hid h2
  have HF := Lib.hid h3
  have HOV : Hid (Below w0.heap.size w0 V) := HOLD.out.trans (h3.below HOLD.out.size (fun k hk => by rw [hk]; exact HP0.out))
  clear h1 h2 h3
  clear HTG HXN
  generalize hnn : x / 8 = n at *
  clear hnn hx
  by_cases c1 : 1152921504606846976 ≤ n
  · by_cases c2 : 1729382256910270464 ≤ n
    · have HE := Lib.hid (show rdT ws nm ahead x (l1 + 1) = .ok (tI ((n : Int) - 2305843009213693952), l1) from by rw [HE0.out, if_pos (by decide)]; have h9 : leafP nm n 0 = some (tI ((n : Int) - 2305843009213693952)) := (by unfold leafP; rw [if_pos rfl, if_neg (by omega), if_pos (by omega)]); rw [h9])
      have d1 : decide ((1152921504606846976 : Int) ≤ (n : Int)) = true := by (simp <;> omega)
      have d2 : decide ((n : Int) - 2305843009213693952 < (-576460752303423488 : Int)) = false := by (simp <;> omega)
      have d3 : decide ((576460752303423487 : Int) < (n : Int) - 2305843009213693952) = false := by (simp <;> omega)
      clear HE0 c1 c2
      go_wp2_with (go_at_call 31; refine (tint_any ((n : Int) - 2305843009213693952) _).mono ?_; rintro r V8 ⟨rfl, hb8⟩; have HB := Lib.hid (HB.out.keep hb8); have HK := Lib.hid (HK.out.keep hb8); have HF := Lib.hid (HF.out.same (Fr.of_below hb8 _)); clear hb8; have z0 := HK.out.cell 0; have z1 := HK.out.cell 1; have z2 := HK.out.cell 2; have z3 := HK.out.cell 3; have zf0 := HK.out.frozen 0; have zf1 := HK.out.frozen 1; have zf2 := HK.out.frozen 2; have zf3 := HK.out.frozen 3)
      have hB2 := HK.out.set4 (.int .i64 1) (.int .i64 ((n : Int) - 2305843009213693952)) (.string ⟨#[]⟩) (.slice none 0 0)
      have y0 := hB2.cell 0
      have y1 := hB2.cell 1
      have y2 := hB2.cell 2
      have y3 := hB2.cell 3
      have hfr := fr_set4 V8 g (.int .i64 1) (.int .i64 ((n : Int) - 2305843009213693952)) (.string ⟨#[]⟩) (.slice none 0 0)
      refine bodyPost_ret (v := .agg #[.int .i64 1, .int .i64 ((n : Int) - 2305843009213693952), .string ⟨#[]⟩, .slice none 0 0]) (by simp [results, Try.results37, go_sem, y0, y1, y2, y3]) rfl ?_
      rw [HE.out]
      refine ⟨HF.out.trans hfr (fun k hk e => by have := HG.out; omega), 1, (n : Int) - 2305843009213693952, [], none, 0, 0, rfl, (fun er h => by cases h), fun t' l' h => ?_⟩
      simp only [Except.ok.injEq, Prod.mk.injEq] at h
      obtain ⟨rfl, rfl⟩ := h
      refine ⟨?_, hfr.blk HB.out (fun e => HGP.out e.symm)⟩
      exact ⟨none, 0, 0, rfl, rfl, rdM_nil _ _ _ (by omega)⟩
    · have HE := Lib.hid (show rdT ws nm ahead x (l1 + 1) = .error 90 from by rw [HE0.out, if_pos (by decide)]; have h9 : leafP nm n 0 = none := (by unfold leafP; rw [if_pos rfl, if_neg (by omega), if_neg (by omega)]); rw [h9])
      have d1 : decide ((1152921504606846976 : Int) ≤ (n : Int)) = true := by (simp <;> omega)
      have d2 : decide ((n : Int) - 2305843009213693952 < (-576460752303423488 : Int)) = true := by (simp <;> omega)
      clear HE0 c1 c2
      go_wp2_with (go_at_call 71; refine (qfail_v (e := 90) HB.out).mono ?_; rintro r V8 ⟨rfl, hw8, hf8⟩; have HB := Lib.hid hw8; have HK := Lib.hid (hf8.blk HK.out HGP.out); have HF := Lib.hid (HF.out.same hf8); clear hw8 hf8; have z0 := HK.out.cell 0; have z1 := HK.out.cell 1; have z2 := HK.out.cell 2; have z3 := HK.out.cell 3; have zf0 := HK.out.frozen 0; have zf1 := HK.out.frozen 1; have zf2 := HK.out.frozen 2; have zf3 := HK.out.frozen 3)
      have hB2 := HK.out.set4 (.int .i64 0) (.int .i64 0) (.string ⟨#[]⟩) (.slice none 0 0)
      have y0 := hB2.cell 0
      have y1 := hB2.cell 1
      have y2 := hB2.cell 2
      have y3 := hB2.cell 3
      have hfr := fr_set4 V8 g (.int .i64 0) (.int .i64 0) (.string ⟨#[]⟩) (.slice none 0 0)
      refine bodyPost_ret (v := .agg #[.int .i64 0, .int .i64 0, .string ⟨#[]⟩, .slice none 0 0]) (by simp [results, Try.results37, go_sem, y0, y1, y2, y3]) rfl ?_
      rw [HE.out]
      refine ⟨HF.out.trans hfr (fun k hk e => by have := HG.out; omega), 0, 0, [], none, 0, 0, rfl, fun er h => ?_, fun t l h => by cases h⟩
      cases h
      exact ⟨by decide, (l1 : Int), hfr.blk HB.out (fun e => HGP.out e.symm)⟩
  · by_cases c2 : n ≤ 576460752303423487
    · have HE := Lib.hid (show rdT ws nm ahead x (l1 + 1) = .ok (tI (n : Int), l1) from by rw [HE0.out, if_pos (by decide)]; have h9 : leafP nm n 0 = some (tI (n : Int)) := (by unfold leafP; rw [if_pos rfl, if_pos (by omega)]); rw [h9])
      have d1 : decide ((1152921504606846976 : Int) ≤ (n : Int)) = false := by (simp <;> omega)
      have d2 : decide ((n : Int) < (-576460752303423488 : Int)) = false := by (simp <;> omega)
      have d3 : decide ((576460752303423487 : Int) < (n : Int)) = false := by (simp <;> omega)
      clear HE0 c1 c2
      go_wp2_with (go_at_call 31; refine (tint_any (n : Int) _).mono ?_; rintro r V8 ⟨rfl, hb8⟩; have HB := Lib.hid (HB.out.keep hb8); have HK := Lib.hid (HK.out.keep hb8); have HF := Lib.hid (HF.out.same (Fr.of_below hb8 _)); clear hb8; have z0 := HK.out.cell 0; have z1 := HK.out.cell 1; have z2 := HK.out.cell 2; have z3 := HK.out.cell 3; have zf0 := HK.out.frozen 0; have zf1 := HK.out.frozen 1; have zf2 := HK.out.frozen 2; have zf3 := HK.out.frozen 3)
      have hB2 := HK.out.set4 (.int .i64 1) (.int .i64 ((n : Int))) (.string ⟨#[]⟩) (.slice none 0 0)
      have y0 := hB2.cell 0
      have y1 := hB2.cell 1
      have y2 := hB2.cell 2
      have y3 := hB2.cell 3
      have hfr := fr_set4 V8 g (.int .i64 1) (.int .i64 ((n : Int))) (.string ⟨#[]⟩) (.slice none 0 0)
      refine bodyPost_ret (v := .agg #[.int .i64 1, .int .i64 ((n : Int)), .string ⟨#[]⟩, .slice none 0 0]) (by simp [results, Try.results37, go_sem, y0, y1, y2, y3]) rfl ?_
      rw [HE.out]
      refine ⟨HF.out.trans hfr (fun k hk e => by have := HG.out; omega), 1, (n : Int), [], none, 0, 0, rfl, (fun er h => by cases h), fun t' l' h => ?_⟩
      simp only [Except.ok.injEq, Prod.mk.injEq] at h
      obtain ⟨rfl, rfl⟩ := h
      refine ⟨?_, hfr.blk HB.out (fun e => HGP.out e.symm)⟩
      exact ⟨none, 0, 0, rfl, rfl, rdM_nil _ _ _ (by omega)⟩
    · have HE := Lib.hid (show rdT ws nm ahead x (l1 + 1) = .error 90 from by rw [HE0.out, if_pos (by decide)]; have h9 : leafP nm n 0 = none := (by unfold leafP; rw [if_pos rfl, if_neg (by omega), if_neg (by omega)]); rw [h9])
      have d1 : decide ((1152921504606846976 : Int) ≤ (n : Int)) = false := by (simp <;> omega)
      have d2 : decide ((n : Int) < (-576460752303423488 : Int)) = false := by (simp <;> omega)
      have d3 : decide ((576460752303423487 : Int) < (n : Int)) = true := by (simp <;> omega)
      clear HE0 c1 c2
      go_wp2_with (go_at_call 71; refine (qfail_v (e := 90) HB.out).mono ?_; rintro r V8 ⟨rfl, hw8, hf8⟩; have HB := Lib.hid hw8; have HK := Lib.hid (hf8.blk HK.out HGP.out); have HF := Lib.hid (HF.out.same hf8); clear hw8 hf8; have z0 := HK.out.cell 0; have z1 := HK.out.cell 1; have z2 := HK.out.cell 2; have z3 := HK.out.cell 3; have zf0 := HK.out.frozen 0; have zf1 := HK.out.frozen 1; have zf2 := HK.out.frozen 2; have zf3 := HK.out.frozen 3)
      have hB2 := HK.out.set4 (.int .i64 0) (.int .i64 0) (.string ⟨#[]⟩) (.slice none 0 0)
      have y0 := hB2.cell 0
      have y1 := hB2.cell 1
      have y2 := hB2.cell 2
      have y3 := hB2.cell 3
      have hfr := fr_set4 V8 g (.int .i64 0) (.int .i64 0) (.string ⟨#[]⟩) (.slice none 0 0)
      refine bodyPost_ret (v := .agg #[.int .i64 0, .int .i64 0, .string ⟨#[]⟩, .slice none 0 0]) (by simp [results, Try.results37, go_sem, y0, y1, y2, y3]) rfl ?_
      rw [HE.out]
      refine ⟨HF.out.trans hfr (fun k hk e => by have := HG.out; omega), 0, 0, [], none, 0, 0, rfl, fun er h => ?_, fun t l h => by cases h⟩
      cases h
      exact ⟨by decide, (l1 : Int), hfr.blk HB.out (fun e => HGP.out e.symm)⟩
set_option maxRecDepth 100000 in
set_option maxHeartbeats 4000000 in
theorem qterm1 (ahead x l1 : Nat) (W : World) (hx : x < 18446744073709551616) (hxt : x % 8 = 1) (hleft : l1 + 1 ≤ 4096) (hold : Below w0.heap.size w0 W) (hB : Blk W pw 83 #[.slice Aw lw cw, .slice Aa la ca, .slice Ar lr cr, .int .i64 ((l1 + 1 : Nat) : Int), .int .i64 0]) (hpw : w0.heap.size ≤ pw) (hR : RdC w0 Aw (ws.map nv)) (hN : RdC w0 Aa (nm.map hv)) (hl : ws.length = lw) (hln : nm.length = la) (h64 : W64 ws) (hlw : lw ≤ 100000) (hla : la ≤ 100000) (ha : ahead ≤ lw) :
    Calls Try.prog 37 #[.pointer (some ⟨pw, 0, none⟩), .int .u64 (x : Int), .int .i64 (ahead : Int)] W (QTE pw Aw lw cw Aa la ca Ar lr cr W (rdT ws nm ahead x (l1 + 1))) := by
  have HB := Lib.hid hB
  have HPW := Lib.hid hB.lt
  have HOLD := Lib.hid hold
  have HR := Lib.hid hR
  have HN := Lib.hid hN
  have HP0 := Lib.hid hpw
  have HH := Lib.hid (And.intro hl (And.intro hln h64))
  have HTG := Lib.hid (show wrap64 (bits BinOp.and IntKind.u64 (x : Int) 7) = 1 from by rw [and7 x hx, hxt]; rfl)
  have HXN := Lib.hid (show (x : Int) / 8 = ((x / 8 : Nat) : Int) by omega)
  have hn61 : x / 8 < 2305843009213693952 := by omega
  have HE0 := Lib.hid (show rdT ws nm ahead x (l1 + 1) = if 1 < 5 then (match leafP nm (x / 8) 1 with | none => .error 90 | some t => .ok (t, l1)) else if h : x / 8 < ahead then (match cellP ws (x / 8) 1 with | none => .error 90 | some (k, i, items) => match rdL (fun y l => rdT ws nm (x / 8) y l) items l1 with | .error e => .error e | .ok (ts, l1) => .ok (.mk k i [] ts, l1)) else .error 90 from by rw [rdT, hxt]; rw [if_neg (by omega)]; rfl)
  clear hB hold hR hN hl hln h64 hpw hxt
  obtain ⟨g, hg⟩ : ∃ g, W.heap.size = g := ⟨_, rfl⟩
  have HG := Lib.hid hg
  have HGP : Hid (g ≠ pw) := by have := HPW.out; unfold Hid; omega
  go_enter Try.func37, Try.ntmps37
  go_upto_region 1 with (fail)
  refine wp_world (fun V => Below W.heap.size W V ∧ Blk V g 37 #[.int .i64 0, .int .i64 0, .string ⟨#[]⟩, .slice none 0 0]) ⟨below_alloc _ _, by rw [← HG.out]; exact Blk.new _ _ _⟩ ?_
  rintro V ⟨hb, hk⟩
  have HK := Lib.hid hk
  have HBL := Lib.hid hb
  have HB := Lib.hid (HB.out.keep hb)
  have x3 := HB.out.cell 3
  have xf3 := HB.out.frozen 3
  have x4 := HB.out.cell 4
  clear hb hk hg
  have hset : Hid (∀ l : Int, Blk (V.setCell ⟨pw, 3, none⟩ (.int .i64 l)) pw 83 #[.slice Aw lw cw, .slice Aa la ca, .slice Ar lr cr, .int .i64 l, .int .i64 0] ∧ Blk (V.setCell ⟨pw, 3, none⟩ (.int .i64 l)) g 37 #[.int .i64 0, .int .i64 0, .string ⟨#[]⟩, .slice none 0 0] ∧ Fr (fun k => k = pw) W (V.setCell ⟨pw, 3, none⟩ (.int .i64 l))) := fun l =>
    ⟨HB.out.set_ 3 (.int .i64 l), HK.out.far (p := ⟨pw, 3, none⟩) HGP.out _, (Fr.of_below HBL.out _).same (Fr.setCell (fun k => k = pw) V (p := ⟨pw, 3, none⟩) (fun _ => rfl) _)⟩
  go_upto_region 8 with (fail)
  rw [HTG.out, HXN.out]
  refine wp_world (fun V => Blk V pw 83 #[.slice Aw lw cw, .slice Aa la ca, .slice Ar lr cr, .int .i64 (l1 : Int), .int .i64 0] ∧ Blk V g 37 #[.int .i64 0, .int .i64 0, .string ⟨#[]⟩, .slice none 0 0] ∧ Fr (fun k => k = pw) W V) (hset.out (l1 : Int)) ?_
  clear hset x3 xf3 x4 HB HK HBL
  rintro V ⟨h1, h2, h3⟩
  have HB := Lib.hid h1
  have HK := Lib.hid h2
  have HF := Lib.hid h3
  have HOV : Hid (Below w0.heap.size w0 V) := HOLD.out.trans (h3.below HOLD.out.size (fun k hk => by rw [hk]; exact HP0.out))
  clear h1 h2 h3
  clear HTG HXN
  generalize hnn : x / 8 = n at *
  clear hnn hx
  have x1 := HB.out.cell 1
  by_cases c1 : la ≤ n
  · have HE := Lib.hid (show rdT ws nm ahead x (l1 + 1) = .error 90 from by rw [HE0.out, if_pos (by decide)]; have h9 : leafP nm n 1 = none := (by unfold leafP; rw [if_neg (by decide), if_pos rfl, List.getElem?_eq_none (by rw [HH.out.2.1]; exact c1)]; first | done | rfl); rw [h9])
    clear HE0
    go_wp2_with (go_at_call 71; refine (qfail_v (e := 90) HB.out).mono ?_; rintro r V8 ⟨rfl, hw8, hf8⟩; have HB := Lib.hid hw8; have HK := Lib.hid (hf8.blk HK.out HGP.out); have HF := Lib.hid (HF.out.same hf8); clear hw8 hf8; have z0 := HK.out.cell 0; have z1 := HK.out.cell 1; have z2 := HK.out.cell 2; have z3 := HK.out.cell 3; have zf0 := HK.out.frozen 0; have zf1 := HK.out.frozen 1; have zf2 := HK.out.frozen 2; have zf3 := HK.out.frozen 3)
    have hB2 := HK.out.set4 (.int .i64 0) (.int .i64 0) (.string ⟨#[]⟩) (.slice none 0 0)
    have y0 := hB2.cell 0
    have y1 := hB2.cell 1
    have y2 := hB2.cell 2
    have y3 := hB2.cell 3
    have hfr := fr_set4 V8 g (.int .i64 0) (.int .i64 0) (.string ⟨#[]⟩) (.slice none 0 0)
    refine bodyPost_ret (v := .agg #[.int .i64 0, .int .i64 0, .string ⟨#[]⟩, .slice none 0 0]) (by simp [results, Try.results37, go_sem, y0, y1, y2, y3]) rfl ?_
    rw [HE.out]
    refine ⟨HF.out.trans hfr (fun k hk e => by have := HG.out; omega), 0, 0, [], none, 0, 0, rfl, fun er h => ?_, fun t l h => by cases h⟩
    cases h
    exact ⟨by decide, (l1 : Int), hfr.blk HB.out (fun e => HGP.out e.symm)⟩
  · have hnl : n < nm.length := by rw [HH.out.2.1]; omega
    obtain ⟨b1, o1, rfl, cc⟩ := (HN.out.below HOV.out).at_ (j := n) (v := hv nm[n]) (by simp [hnl])
    unfold hv at cc
    have hq1 : (0 : Int) ≤ (n : Int) := by omega
    have hq2 : (n : Int) < (la : Int) := by omega
    have HNM := Lib.hid (show nm[n]? = some nm[n] from List.getElem?_eq_getElem hnl)
    generalize nm[n] = s at *
    clear hnl
    by_cases c2 : s = []
    · have HE := Lib.hid (show rdT ws nm ahead x (l1 + 1) = .error 90 from by rw [HE0.out, if_pos (by decide)]; have h9 : leafP nm n 1 = none := (by unfold leafP; rw [if_neg (by decide), if_pos rfl, HNM.out]; simp [c2]); rw [h9])
      subst c2
      clear HE0
      go_wp2_with (go_at_call 71; refine (qfail_v (e := 90) HB.out).mono ?_; rintro r V8 ⟨rfl, hw8, hf8⟩; have HB := Lib.hid hw8; have HK := Lib.hid (hf8.blk HK.out HGP.out); have HF := Lib.hid (HF.out.same hf8); clear hw8 hf8; have z0 := HK.out.cell 0; have z1 := HK.out.cell 1; have z2 := HK.out.cell 2; have z3 := HK.out.cell 3; have zf0 := HK.out.frozen 0; have zf1 := HK.out.frozen 1; have zf2 := HK.out.frozen 2; have zf3 := HK.out.frozen 3)
      have hB2 := HK.out.set4 (.int .i64 0) (.int .i64 0) (.string ⟨#[]⟩) (.slice none 0 0)
      have y0 := hB2.cell 0
      have y1 := hB2.cell 1
      have y2 := hB2.cell 2
      have y3 := hB2.cell 3
      have hfr := fr_set4 V8 g (.int .i64 0) (.int .i64 0) (.string ⟨#[]⟩) (.slice none 0 0)
      refine bodyPost_ret (v := .agg #[.int .i64 0, .int .i64 0, .string ⟨#[]⟩, .slice none 0 0]) (by simp [results, Try.results37, go_sem, y0, y1, y2, y3]) rfl ?_
      rw [HE.out]
      refine ⟨HF.out.trans hfr (fun k hk e => by have := HG.out; omega), 0, 0, [], none, 0, 0, rfl, fun er h => ?_, fun t l h => by cases h⟩
      cases h
      exact ⟨by decide, (l1 : Int), hfr.blk HB.out (fun e => HGP.out e.symm)⟩
    · by_cases c3 : s.length ≤ 255
      · have HE := Lib.hid (show rdT ws nm ahead x (l1 + 1) = .ok (tA s, l1) from by rw [HE0.out, if_pos (by decide)]; have h9 : leafP nm n 1 = some (tA s) := (by unfold leafP; rw [if_neg (by decide), if_pos rfl, HNM.out]; simp [c2, c3]); rw [h9])
        have c4 : 1 ≤ s.length := by cases s with | nil => exact absurd rfl c2 | cons a r => simp
        clear HE0 c2
        go_wp2_with (go_at_call 72; refine (tatom_v s _).mono ?_; rintro r V8 ⟨rfl, hb8⟩; have HB := Lib.hid (HB.out.keep hb8); have HK := Lib.hid (HK.out.keep hb8); have HF := Lib.hid (HF.out.same (Fr.of_below hb8 _)); clear hb8; have z0 := HK.out.cell 0; have z1 := HK.out.cell 1; have z2 := HK.out.cell 2; have z3 := HK.out.cell 3; have zf0 := HK.out.frozen 0; have zf1 := HK.out.frozen 1; have zf2 := HK.out.frozen 2; have zf3 := HK.out.frozen 3)
        have hB2 := HK.out.set4 (.int .i64 2) (.int .i64 (0)) (.string ⟨(s).toArray⟩) (.slice none 0 0)
        have y0 := hB2.cell 0
        have y1 := hB2.cell 1
        have y2 := hB2.cell 2
        have y3 := hB2.cell 3
        have hfr := fr_set4 V8 g (.int .i64 2) (.int .i64 (0)) (.string ⟨(s).toArray⟩) (.slice none 0 0)
        refine bodyPost_ret (v := .agg #[.int .i64 2, .int .i64 (0), .string ⟨(s).toArray⟩, .slice none 0 0]) (by simp [results, Try.results37, go_sem, y0, y1, y2, y3]) rfl ?_
        rw [HE.out]
        refine ⟨HF.out.trans hfr (fun k hk e => by have := HG.out; omega), 2, 0, s, none, 0, 0, rfl, (fun er h => by cases h), fun t' l' h => ?_⟩
        simp only [Except.ok.injEq, Prod.mk.injEq] at h
        obtain ⟨rfl, rfl⟩ := h
        refine ⟨?_, hfr.blk HB.out (fun e => HGP.out e.symm)⟩
        exact ⟨none, 0, 0, rfl, rfl, rdM_nil _ _ _ (by omega)⟩
      · have HE := Lib.hid (show rdT ws nm ahead x (l1 + 1) = .error 90 from by rw [HE0.out, if_pos (by decide)]; have h9 : leafP nm n 1 = none := (by unfold leafP; rw [if_neg (by decide), if_pos rfl, HNM.out]; simp [c3]); rw [h9])
        have c4 : 1 ≤ s.length := by omega
        clear HE0 c2
        go_wp2_with (go_at_call 71; refine (qfail_v (e := 90) HB.out).mono ?_; rintro r V8 ⟨rfl, hw8, hf8⟩; have HB := Lib.hid hw8; have HK := Lib.hid (hf8.blk HK.out HGP.out); have HF := Lib.hid (HF.out.same hf8); clear hw8 hf8; have z0 := HK.out.cell 0; have z1 := HK.out.cell 1; have z2 := HK.out.cell 2; have z3 := HK.out.cell 3; have zf0 := HK.out.frozen 0; have zf1 := HK.out.frozen 1; have zf2 := HK.out.frozen 2; have zf3 := HK.out.frozen 3)
        have hB2 := HK.out.set4 (.int .i64 0) (.int .i64 0) (.string ⟨#[]⟩) (.slice none 0 0)
        have y0 := hB2.cell 0
        have y1 := hB2.cell 1
        have y2 := hB2.cell 2
        have y3 := hB2.cell 3
        have hfr := fr_set4 V8 g (.int .i64 0) (.int .i64 0) (.string ⟨#[]⟩) (.slice none 0 0)
        refine bodyPost_ret (v := .agg #[.int .i64 0, .int .i64 0, .string ⟨#[]⟩, .slice none 0 0]) (by simp [results, Try.results37, go_sem, y0, y1, y2, y3]) rfl ?_
        rw [HE.out]
        refine ⟨HF.out.trans hfr (fun k hk e => by have := HG.out; omega), 0, 0, [], none, 0, 0, rfl, fun er h => ?_, fun t l h => by cases h⟩
        cases h
        exact ⟨by decide, (l1 : Int), hfr.blk HB.out (fun e => HGP.out e.symm)⟩
set_option maxRecDepth 100000 in
set_option maxHeartbeats 4000000 in
theorem qterm2 (ahead x l1 : Nat) (W : World) (hx : x < 18446744073709551616) (hxt : x % 8 = 2) (hleft : l1 + 1 ≤ 4096) (hold : Below w0.heap.size w0 W) (hB : Blk W pw 83 #[.slice Aw lw cw, .slice Aa la ca, .slice Ar lr cr, .int .i64 ((l1 + 1 : Nat) : Int), .int .i64 0]) (hpw : w0.heap.size ≤ pw) (hR : RdC w0 Aw (ws.map nv)) (hN : RdC w0 Aa (nm.map hv)) (hl : ws.length = lw) (hln : nm.length = la) (h64 : W64 ws) (hlw : lw ≤ 100000) (hla : la ≤ 100000) (ha : ahead ≤ lw) :
    Calls Try.prog 37 #[.pointer (some ⟨pw, 0, none⟩), .int .u64 (x : Int), .int .i64 (ahead : Int)] W (QTE pw Aw lw cw Aa la ca Ar lr cr W (rdT ws nm ahead x (l1 + 1))) := by
  have HB := Lib.hid hB
  have HPW := Lib.hid hB.lt
  have HOLD := Lib.hid hold
  have HR := Lib.hid hR
  have HN := Lib.hid hN
  have HP0 := Lib.hid hpw
  have HH := Lib.hid (And.intro hl (And.intro hln h64))
  have HTG := Lib.hid (show wrap64 (bits BinOp.and IntKind.u64 (x : Int) 7) = 2 from by rw [and7 x hx, hxt]; rfl)
  have HXN := Lib.hid (show (x : Int) / 8 = ((x / 8 : Nat) : Int) by omega)
  have hn61 : x / 8 < 2305843009213693952 := by omega
  have HE0 := Lib.hid (show rdT ws nm ahead x (l1 + 1) = if 2 < 5 then (match leafP nm (x / 8) 2 with | none => .error 90 | some t => .ok (t, l1)) else if h : x / 8 < ahead then (match cellP ws (x / 8) 2 with | none => .error 90 | some (k, i, items) => match rdL (fun y l => rdT ws nm (x / 8) y l) items l1 with | .error e => .error e | .ok (ts, l1) => .ok (.mk k i [] ts, l1)) else .error 90 from by rw [rdT, hxt]; rw [if_neg (by omega)]; rfl)
  clear hB hold hR hN hl hln h64 hpw hxt
  obtain ⟨g, hg⟩ : ∃ g, W.heap.size = g := ⟨_, rfl⟩
  have HG := Lib.hid hg
  have HGP : Hid (g ≠ pw) := by have := HPW.out; unfold Hid; omega
  go_enter Try.func37, Try.ntmps37
  go_upto_region 1 with (fail)
  refine wp_world (fun V => Below W.heap.size W V ∧ Blk V g 37 #[.int .i64 0, .int .i64 0, .string ⟨#[]⟩, .slice none 0 0]) ⟨below_alloc _ _, by rw [← HG.out]; exact Blk.new _ _ _⟩ ?_
  rintro V ⟨hb, hk⟩
  have HK := Lib.hid hk
  have HBL := Lib.hid hb
  have HB := Lib.hid (HB.out.keep hb)
  have x3 := HB.out.cell 3
  have xf3 := HB.out.frozen 3
  have x4 := HB.out.cell 4
  clear hb hk hg
  have hset : Hid (∀ l : Int, Blk (V.setCell ⟨pw, 3, none⟩ (.int .i64 l)) pw 83 #[.slice Aw lw cw, .slice Aa la ca, .slice Ar lr cr, .int .i64 l, .int .i64 0] ∧ Blk (V.setCell ⟨pw, 3, none⟩ (.int .i64 l)) g 37 #[.int .i64 0, .int .i64 0, .string ⟨#[]⟩, .slice none 0 0] ∧ Fr (fun k => k = pw) W (V.setCell ⟨pw, 3, none⟩ (.int .i64 l))) := fun l =>
    ⟨HB.out.set_ 3 (.int .i64 l), HK.out.far (p := ⟨pw, 3, none⟩) HGP.out _, (Fr.of_below HBL.out _).same (Fr.setCell (fun k => k = pw) V (p := ⟨pw, 3, none⟩) (fun _ => rfl) _)⟩
  go_upto_region 8 with (fail)
  rw [HTG.out, HXN.out]
  refine wp_world (fun V => Blk V pw 83 #[.slice Aw lw cw, .slice Aa la ca, .slice Ar lr cr, .int .i64 (l1 : Int), .int .i64 0] ∧ Blk V g 37 #[.int .i64 0, .int .i64 0, .string ⟨#[]⟩, .slice none 0 0] ∧ Fr (fun k => k = pw) W V) (hset.out (l1 : Int)) ?_
  clear hset x3 xf3 x4 HB HK HBL
  rintro V ⟨h1, h2, h3⟩
  have HB := Lib.hid h1
  have HK := Lib.hid h2
  have HF := Lib.hid h3
  have HOV : Hid (Below w0.heap.size w0 V) := HOLD.out.trans (h3.below HOLD.out.size (fun k hk => by rw [hk]; exact HP0.out))
  clear h1 h2 h3
  clear HTG HXN
  generalize hnn : x / 8 = n at *
  clear hnn hx
  by_cases c1 : n ≤ 576460752303423487
  · have HE := Lib.hid (show rdT ws nm ahead x (l1 + 1) = .ok (.mk 5 (n : Int) [] [], l1) from by rw [HE0.out, if_pos (by decide)]; have h9 : leafP nm n 2 = some (.mk 5 (n : Int) [] []) := (by unfold leafP; rw [if_neg (by decide), if_neg (by decide), if_pos rfl, if_pos c1]); rw [h9])
    clear HE0
    go_wp2_with (go_at_call 73; refine (tpid_v (n : Int) _).mono ?_; rintro r V8 ⟨rfl, hb8⟩; have HB := Lib.hid (HB.out.keep hb8); have HK := Lib.hid (HK.out.keep hb8); have HF := Lib.hid (HF.out.same (Fr.of_below hb8 _)); clear hb8; have z0 := HK.out.cell 0; have z1 := HK.out.cell 1; have z2 := HK.out.cell 2; have z3 := HK.out.cell 3; have zf0 := HK.out.frozen 0; have zf1 := HK.out.frozen 1; have zf2 := HK.out.frozen 2; have zf3 := HK.out.frozen 3)
    have hB2 := HK.out.set4 (.int .i64 5) (.int .i64 ((n : Int))) (.string ⟨#[]⟩) (.slice none 0 0)
    have y0 := hB2.cell 0
    have y1 := hB2.cell 1
    have y2 := hB2.cell 2
    have y3 := hB2.cell 3
    have hfr := fr_set4 V8 g (.int .i64 5) (.int .i64 ((n : Int))) (.string ⟨#[]⟩) (.slice none 0 0)
    refine bodyPost_ret (v := .agg #[.int .i64 5, .int .i64 ((n : Int)), .string ⟨#[]⟩, .slice none 0 0]) (by simp [results, Try.results37, go_sem, y0, y1, y2, y3]) rfl ?_
    rw [HE.out]
    refine ⟨HF.out.trans hfr (fun k hk e => by have := HG.out; omega), 5, (n : Int), [], none, 0, 0, rfl, (fun er h => by cases h), fun t' l' h => ?_⟩
    simp only [Except.ok.injEq, Prod.mk.injEq] at h
    obtain ⟨rfl, rfl⟩ := h
    refine ⟨?_, hfr.blk HB.out (fun e => HGP.out e.symm)⟩
    exact ⟨none, 0, 0, rfl, rfl, rdM_nil _ _ _ (by omega)⟩
  · have HE := Lib.hid (show rdT ws nm ahead x (l1 + 1) = .error 90 from by rw [HE0.out, if_pos (by decide)]; have h9 : leafP nm n 2 = none := (by unfold leafP; rw [if_neg (by decide), if_neg (by decide), if_pos rfl, if_neg c1]); rw [h9])
    clear HE0
    go_wp2_with (go_at_call 71; refine (qfail_v (e := 90) HB.out).mono ?_; rintro r V8 ⟨rfl, hw8, hf8⟩; have HB := Lib.hid hw8; have HK := Lib.hid (hf8.blk HK.out HGP.out); have HF := Lib.hid (HF.out.same hf8); clear hw8 hf8; have z0 := HK.out.cell 0; have z1 := HK.out.cell 1; have z2 := HK.out.cell 2; have z3 := HK.out.cell 3; have zf0 := HK.out.frozen 0; have zf1 := HK.out.frozen 1; have zf2 := HK.out.frozen 2; have zf3 := HK.out.frozen 3)
    have hB2 := HK.out.set4 (.int .i64 0) (.int .i64 0) (.string ⟨#[]⟩) (.slice none 0 0)
    have y0 := hB2.cell 0
    have y1 := hB2.cell 1
    have y2 := hB2.cell 2
    have y3 := hB2.cell 3
    have hfr := fr_set4 V8 g (.int .i64 0) (.int .i64 0) (.string ⟨#[]⟩) (.slice none 0 0)
    refine bodyPost_ret (v := .agg #[.int .i64 0, .int .i64 0, .string ⟨#[]⟩, .slice none 0 0]) (by simp [results, Try.results37, go_sem, y0, y1, y2, y3]) rfl ?_
    rw [HE.out]
    refine ⟨HF.out.trans hfr (fun k hk e => by have := HG.out; omega), 0, 0, [], none, 0, 0, rfl, fun er h => ?_, fun t l h => by cases h⟩
    cases h
    exact ⟨by decide, (l1 : Int), hfr.blk HB.out (fun e => HGP.out e.symm)⟩
set_option maxRecDepth 100000 in
set_option maxHeartbeats 4000000 in
theorem qterm3 (ahead x l1 : Nat) (W : World) (hx : x < 18446744073709551616) (hxt : x % 8 = 3) (hleft : l1 + 1 ≤ 4096) (hold : Below w0.heap.size w0 W) (hB : Blk W pw 83 #[.slice Aw lw cw, .slice Aa la ca, .slice Ar lr cr, .int .i64 ((l1 + 1 : Nat) : Int), .int .i64 0]) (hpw : w0.heap.size ≤ pw) (hR : RdC w0 Aw (ws.map nv)) (hN : RdC w0 Aa (nm.map hv)) (hl : ws.length = lw) (hln : nm.length = la) (h64 : W64 ws) (hlw : lw ≤ 100000) (hla : la ≤ 100000) (ha : ahead ≤ lw) :
    Calls Try.prog 37 #[.pointer (some ⟨pw, 0, none⟩), .int .u64 (x : Int), .int .i64 (ahead : Int)] W (QTE pw Aw lw cw Aa la ca Ar lr cr W (rdT ws nm ahead x (l1 + 1))) := by
  have HB := Lib.hid hB
  have HPW := Lib.hid hB.lt
  have HOLD := Lib.hid hold
  have HR := Lib.hid hR
  have HN := Lib.hid hN
  have HP0 := Lib.hid hpw
  have HH := Lib.hid (And.intro hl (And.intro hln h64))
  have HTG := Lib.hid (show wrap64 (bits BinOp.and IntKind.u64 (x : Int) 7) = 3 from by rw [and7 x hx, hxt]; rfl)
  have HXN := Lib.hid (show (x : Int) / 8 = ((x / 8 : Nat) : Int) by omega)
  have hn61 : x / 8 < 2305843009213693952 := by omega
  have HE0 := Lib.hid (show rdT ws nm ahead x (l1 + 1) = if 3 < 5 then (match leafP nm (x / 8) 3 with | none => .error 90 | some t => .ok (t, l1)) else if h : x / 8 < ahead then (match cellP ws (x / 8) 3 with | none => .error 90 | some (k, i, items) => match rdL (fun y l => rdT ws nm (x / 8) y l) items l1 with | .error e => .error e | .ok (ts, l1) => .ok (.mk k i [] ts, l1)) else .error 90 from by rw [rdT, hxt]; rw [if_neg (by omega)]; rfl)
  clear hB hold hR hN hl hln h64 hpw hxt
  obtain ⟨g, hg⟩ : ∃ g, W.heap.size = g := ⟨_, rfl⟩
  have HG := Lib.hid hg
  have HGP : Hid (g ≠ pw) := by have := HPW.out; unfold Hid; omega
  go_enter Try.func37, Try.ntmps37
  go_upto_region 1 with (fail)
  refine wp_world (fun V => Below W.heap.size W V ∧ Blk V g 37 #[.int .i64 0, .int .i64 0, .string ⟨#[]⟩, .slice none 0 0]) ⟨below_alloc _ _, by rw [← HG.out]; exact Blk.new _ _ _⟩ ?_
  rintro V ⟨hb, hk⟩
  have HK := Lib.hid hk
  have HBL := Lib.hid hb
  have HB := Lib.hid (HB.out.keep hb)
  have x3 := HB.out.cell 3
  have xf3 := HB.out.frozen 3
  have x4 := HB.out.cell 4
  clear hb hk hg
  have hset : Hid (∀ l : Int, Blk (V.setCell ⟨pw, 3, none⟩ (.int .i64 l)) pw 83 #[.slice Aw lw cw, .slice Aa la ca, .slice Ar lr cr, .int .i64 l, .int .i64 0] ∧ Blk (V.setCell ⟨pw, 3, none⟩ (.int .i64 l)) g 37 #[.int .i64 0, .int .i64 0, .string ⟨#[]⟩, .slice none 0 0] ∧ Fr (fun k => k = pw) W (V.setCell ⟨pw, 3, none⟩ (.int .i64 l))) := fun l =>
    ⟨HB.out.set_ 3 (.int .i64 l), HK.out.far (p := ⟨pw, 3, none⟩) HGP.out _, (Fr.of_below HBL.out _).same (Fr.setCell (fun k => k = pw) V (p := ⟨pw, 3, none⟩) (fun _ => rfl) _)⟩
  go_upto_region 8 with (fail)
  rw [HTG.out, HXN.out]
  refine wp_world (fun V => Blk V pw 83 #[.slice Aw lw cw, .slice Aa la ca, .slice Ar lr cr, .int .i64 (l1 : Int), .int .i64 0] ∧ Blk V g 37 #[.int .i64 0, .int .i64 0, .string ⟨#[]⟩, .slice none 0 0] ∧ Fr (fun k => k = pw) W V) (hset.out (l1 : Int)) ?_
  clear hset x3 xf3 x4 HB HK HBL
  rintro V ⟨h1, h2, h3⟩
  have HB := Lib.hid h1
  have HK := Lib.hid h2
  have HF := Lib.hid h3
  have HOV : Hid (Below w0.heap.size w0 V) := HOLD.out.trans (h3.below HOLD.out.size (fun k hk => by rw [hk]; exact HP0.out))
  clear h1 h2 h3
  clear HTG HXN
  generalize hnn : x / 8 = n at *
  clear hnn hx
  by_cases c1 : n ≤ 576460752303423487
  · have HE := Lib.hid (show rdT ws nm ahead x (l1 + 1) = .ok (.mk 3 (n : Int) [] [], l1) from by rw [HE0.out, if_pos (by decide)]; have h9 : leafP nm n 3 = some (.mk 3 (n : Int) [] []) := (by unfold leafP; rw [if_neg (by decide), if_neg (by decide), if_neg (by decide), if_pos rfl, if_pos c1]); rw [h9])
    clear HE0
    go_wp2_with (go_at_call 74; refine (tref_v (n : Int) _).mono ?_; rintro r V8 ⟨rfl, hb8⟩; have HB := Lib.hid (HB.out.keep hb8); have HK := Lib.hid (HK.out.keep hb8); have HF := Lib.hid (HF.out.same (Fr.of_below hb8 _)); clear hb8; have z0 := HK.out.cell 0; have z1 := HK.out.cell 1; have z2 := HK.out.cell 2; have z3 := HK.out.cell 3; have zf0 := HK.out.frozen 0; have zf1 := HK.out.frozen 1; have zf2 := HK.out.frozen 2; have zf3 := HK.out.frozen 3)
    have hB2 := HK.out.set4 (.int .i64 3) (.int .i64 ((n : Int))) (.string ⟨#[]⟩) (.slice none 0 0)
    have y0 := hB2.cell 0
    have y1 := hB2.cell 1
    have y2 := hB2.cell 2
    have y3 := hB2.cell 3
    have hfr := fr_set4 V8 g (.int .i64 3) (.int .i64 ((n : Int))) (.string ⟨#[]⟩) (.slice none 0 0)
    refine bodyPost_ret (v := .agg #[.int .i64 3, .int .i64 ((n : Int)), .string ⟨#[]⟩, .slice none 0 0]) (by simp [results, Try.results37, go_sem, y0, y1, y2, y3]) rfl ?_
    rw [HE.out]
    refine ⟨HF.out.trans hfr (fun k hk e => by have := HG.out; omega), 3, (n : Int), [], none, 0, 0, rfl, (fun er h => by cases h), fun t' l' h => ?_⟩
    simp only [Except.ok.injEq, Prod.mk.injEq] at h
    obtain ⟨rfl, rfl⟩ := h
    refine ⟨?_, hfr.blk HB.out (fun e => HGP.out e.symm)⟩
    exact ⟨none, 0, 0, rfl, rfl, rdM_nil _ _ _ (by omega)⟩
  · have HE := Lib.hid (show rdT ws nm ahead x (l1 + 1) = .error 90 from by rw [HE0.out, if_pos (by decide)]; have h9 : leafP nm n 3 = none := (by unfold leafP; rw [if_neg (by decide), if_neg (by decide), if_neg (by decide), if_pos rfl, if_neg c1]); rw [h9])
    clear HE0
    go_wp2_with (go_at_call 71; refine (qfail_v (e := 90) HB.out).mono ?_; rintro r V8 ⟨rfl, hw8, hf8⟩; have HB := Lib.hid hw8; have HK := Lib.hid (hf8.blk HK.out HGP.out); have HF := Lib.hid (HF.out.same hf8); clear hw8 hf8; have z0 := HK.out.cell 0; have z1 := HK.out.cell 1; have z2 := HK.out.cell 2; have z3 := HK.out.cell 3; have zf0 := HK.out.frozen 0; have zf1 := HK.out.frozen 1; have zf2 := HK.out.frozen 2; have zf3 := HK.out.frozen 3)
    have hB2 := HK.out.set4 (.int .i64 0) (.int .i64 0) (.string ⟨#[]⟩) (.slice none 0 0)
    have y0 := hB2.cell 0
    have y1 := hB2.cell 1
    have y2 := hB2.cell 2
    have y3 := hB2.cell 3
    have hfr := fr_set4 V8 g (.int .i64 0) (.int .i64 0) (.string ⟨#[]⟩) (.slice none 0 0)
    refine bodyPost_ret (v := .agg #[.int .i64 0, .int .i64 0, .string ⟨#[]⟩, .slice none 0 0]) (by simp [results, Try.results37, go_sem, y0, y1, y2, y3]) rfl ?_
    rw [HE.out]
    refine ⟨HF.out.trans hfr (fun k hk e => by have := HG.out; omega), 0, 0, [], none, 0, 0, rfl, fun er h => ?_, fun t l h => by cases h⟩
    cases h
    exact ⟨by decide, (l1 : Int), hfr.blk HB.out (fun e => HGP.out e.symm)⟩
set_option maxRecDepth 100000 in
set_option maxHeartbeats 4000000 in
theorem qterm4 (ahead x l1 : Nat) (W : World) (hx : x < 18446744073709551616) (hxt : x % 8 = 4) (hleft : l1 + 1 ≤ 4096) (hold : Below w0.heap.size w0 W) (hB : Blk W pw 83 #[.slice Aw lw cw, .slice Aa la ca, .slice Ar lr cr, .int .i64 ((l1 + 1 : Nat) : Int), .int .i64 0]) (hpw : w0.heap.size ≤ pw) (hR : RdC w0 Aw (ws.map nv)) (hN : RdC w0 Aa (nm.map hv)) (hl : ws.length = lw) (hln : nm.length = la) (h64 : W64 ws) (hlw : lw ≤ 100000) (hla : la ≤ 100000) (ha : ahead ≤ lw) :
    Calls Try.prog 37 #[.pointer (some ⟨pw, 0, none⟩), .int .u64 (x : Int), .int .i64 (ahead : Int)] W (QTE pw Aw lw cw Aa la ca Ar lr cr W (rdT ws nm ahead x (l1 + 1))) := by
  have HB := Lib.hid hB
  have HPW := Lib.hid hB.lt
  have HOLD := Lib.hid hold
  have HR := Lib.hid hR
  have HN := Lib.hid hN
  have HP0 := Lib.hid hpw
  have HH := Lib.hid (And.intro hl (And.intro hln h64))
  have HTG := Lib.hid (show wrap64 (bits BinOp.and IntKind.u64 (x : Int) 7) = 4 from by rw [and7 x hx, hxt]; rfl)
  have HXN := Lib.hid (show (x : Int) / 8 = ((x / 8 : Nat) : Int) by omega)
  have hn61 : x / 8 < 2305843009213693952 := by omega
  have HE0 := Lib.hid (show rdT ws nm ahead x (l1 + 1) = if 4 < 5 then (match leafP nm (x / 8) 4 with | none => .error 90 | some t => .ok (t, l1)) else if h : x / 8 < ahead then (match cellP ws (x / 8) 4 with | none => .error 90 | some (k, i, items) => match rdL (fun y l => rdT ws nm (x / 8) y l) items l1 with | .error e => .error e | .ok (ts, l1) => .ok (.mk k i [] ts, l1)) else .error 90 from by rw [rdT, hxt]; rw [if_neg (by omega)]; rfl)
  clear hB hold hR hN hl hln h64 hpw hxt
  obtain ⟨g, hg⟩ : ∃ g, W.heap.size = g := ⟨_, rfl⟩
  have HG := Lib.hid hg
  have HGP : Hid (g ≠ pw) := by have := HPW.out; unfold Hid; omega
  go_enter Try.func37, Try.ntmps37
  go_upto_region 1 with (fail)
  refine wp_world (fun V => Below W.heap.size W V ∧ Blk V g 37 #[.int .i64 0, .int .i64 0, .string ⟨#[]⟩, .slice none 0 0]) ⟨below_alloc _ _, by rw [← HG.out]; exact Blk.new _ _ _⟩ ?_
  rintro V ⟨hb, hk⟩
  have HK := Lib.hid hk
  have HBL := Lib.hid hb
  have HB := Lib.hid (HB.out.keep hb)
  have x3 := HB.out.cell 3
  have xf3 := HB.out.frozen 3
  have x4 := HB.out.cell 4
  clear hb hk hg
  have hset : Hid (∀ l : Int, Blk (V.setCell ⟨pw, 3, none⟩ (.int .i64 l)) pw 83 #[.slice Aw lw cw, .slice Aa la ca, .slice Ar lr cr, .int .i64 l, .int .i64 0] ∧ Blk (V.setCell ⟨pw, 3, none⟩ (.int .i64 l)) g 37 #[.int .i64 0, .int .i64 0, .string ⟨#[]⟩, .slice none 0 0] ∧ Fr (fun k => k = pw) W (V.setCell ⟨pw, 3, none⟩ (.int .i64 l))) := fun l =>
    ⟨HB.out.set_ 3 (.int .i64 l), HK.out.far (p := ⟨pw, 3, none⟩) HGP.out _, (Fr.of_below HBL.out _).same (Fr.setCell (fun k => k = pw) V (p := ⟨pw, 3, none⟩) (fun _ => rfl) _)⟩
  go_upto_region 8 with (fail)
  rw [HTG.out, HXN.out]
  refine wp_world (fun V => Blk V pw 83 #[.slice Aw lw cw, .slice Aa la ca, .slice Ar lr cr, .int .i64 (l1 : Int), .int .i64 0] ∧ Blk V g 37 #[.int .i64 0, .int .i64 0, .string ⟨#[]⟩, .slice none 0 0] ∧ Fr (fun k => k = pw) W V) (hset.out (l1 : Int)) ?_
  clear hset x3 xf3 x4 HB HK HBL
  rintro V ⟨h1, h2, h3⟩
  have HB := Lib.hid h1
  have HK := Lib.hid h2
  have HF := Lib.hid h3
  have HOV : Hid (Below w0.heap.size w0 V) := HOLD.out.trans (h3.below HOLD.out.size (fun k hk => by rw [hk]; exact HP0.out))
  clear h1 h2 h3
  clear HTG HXN
  generalize hnn : x / 8 = n at *
  clear hnn hx
  by_cases c1 : n = 0
  · have HE := Lib.hid (show rdT ws nm ahead x (l1 + 1) = .ok (tN, l1) from by rw [HE0.out, if_pos (by decide)]; have h9 : leafP nm n 4 = some tN := (by unfold leafP; rw [if_neg (by decide), if_neg (by decide), if_neg (by decide), if_neg (by decide), if_pos c1]); rw [h9])
    subst c1
    clear HE0
    go_wp2_with (go_at_call 55; refine (tnil_v _).mono ?_; rintro r V8 ⟨rfl, hb8⟩; have HB := Lib.hid (HB.out.keep hb8); have HK := Lib.hid (HK.out.keep hb8); have HF := Lib.hid (HF.out.same (Fr.of_below hb8 _)); clear hb8; have z0 := HK.out.cell 0; have z1 := HK.out.cell 1; have z2 := HK.out.cell 2; have z3 := HK.out.cell 3; have zf0 := HK.out.frozen 0; have zf1 := HK.out.frozen 1; have zf2 := HK.out.frozen 2; have zf3 := HK.out.frozen 3)
    have hB2 := HK.out.set4 (.int .i64 7) (.int .i64 (0)) (.string ⟨#[]⟩) (.slice none 0 0)
    have y0 := hB2.cell 0
    have y1 := hB2.cell 1
    have y2 := hB2.cell 2
    have y3 := hB2.cell 3
    have hfr := fr_set4 V8 g (.int .i64 7) (.int .i64 (0)) (.string ⟨#[]⟩) (.slice none 0 0)
    refine bodyPost_ret (v := .agg #[.int .i64 7, .int .i64 (0), .string ⟨#[]⟩, .slice none 0 0]) (by simp [results, Try.results37, go_sem, y0, y1, y2, y3]) rfl ?_
    rw [HE.out]
    refine ⟨HF.out.trans hfr (fun k hk e => by have := HG.out; omega), 7, 0, [], none, 0, 0, rfl, (fun er h => by cases h), fun t' l' h => ?_⟩
    simp only [Except.ok.injEq, Prod.mk.injEq] at h
    obtain ⟨rfl, rfl⟩ := h
    refine ⟨?_, hfr.blk HB.out (fun e => HGP.out e.symm)⟩
    exact ⟨none, 0, 0, rfl, rfl, rdM_nil _ _ _ (by omega)⟩
  · have HE := Lib.hid (show rdT ws nm ahead x (l1 + 1) = .error 90 from by rw [HE0.out, if_pos (by decide)]; have h9 : leafP nm n 4 = none := (by unfold leafP; rw [if_neg (by decide), if_neg (by decide), if_neg (by decide), if_neg (by decide), if_neg c1]); rw [h9])
    have d1 : ((n : Int) != 0) = true := by simpa using c1
    have d2 : ((n : Int) == 0) = false := by simpa using c1
    clear HE0
    go_wp2_with (go_at_call 71; refine (qfail_v (e := 90) HB.out).mono ?_; rintro r V8 ⟨rfl, hw8, hf8⟩; have HB := Lib.hid hw8; have HK := Lib.hid (hf8.blk HK.out HGP.out); have HF := Lib.hid (HF.out.same hf8); clear hw8 hf8; have z0 := HK.out.cell 0; have z1 := HK.out.cell 1; have z2 := HK.out.cell 2; have z3 := HK.out.cell 3; have zf0 := HK.out.frozen 0; have zf1 := HK.out.frozen 1; have zf2 := HK.out.frozen 2; have zf3 := HK.out.frozen 3)
    have hB2 := HK.out.set4 (.int .i64 0) (.int .i64 0) (.string ⟨#[]⟩) (.slice none 0 0)
    have y0 := hB2.cell 0
    have y1 := hB2.cell 1
    have y2 := hB2.cell 2
    have y3 := hB2.cell 3
    have hfr := fr_set4 V8 g (.int .i64 0) (.int .i64 0) (.string ⟨#[]⟩) (.slice none 0 0)
    refine bodyPost_ret (v := .agg #[.int .i64 0, .int .i64 0, .string ⟨#[]⟩, .slice none 0 0]) (by simp [results, Try.results37, go_sem, y0, y1, y2, y3]) rfl ?_
    rw [HE.out]
    refine ⟨HF.out.trans hfr (fun k hk e => by have := HG.out; omega), 0, 0, [], none, 0, 0, rfl, fun er h => ?_, fun t l h => by cases h⟩
    cases h
    exact ⟨by decide, (l1 : Int), hfr.blk HB.out (fun e => HGP.out e.symm)⟩
end
end
end Go.Proofs.Ytefnjplfemgibaa
