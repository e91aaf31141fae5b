/- Heap (layer 9): the document's Read. Heap (layer 9): the document's Collect. Written by hqgeno.py. -/
import Derived.Test.YtefnjplfemgibaaHqH
import Derived.Test.YtefnjplfemgibaaHpW
import Derived.Test.YtefnjplfemgibaaHqD
namespace Go.Proofs.Ytefnjplfemgibaa
section
open Go.RowKit
set_option linter.unusedVariables false

section
variable {W W' : World} {Aw Aa Ar : Option Addr} {lw cw la ca lr cr : Nat} {ws rs : List Nat} {nm : List (List UInt8)}
set_option maxRecDepth 100000 in
set_option maxHeartbeats 8000000 in
theorem rread_v (W : World) (h : HRd W Aw lw cw Aa la ca Ar lr cr ws nm rs) :
    Calls Try.prog 18 #[.agg #[.slice Aw lw cw, .slice Aa la ca, .slice Ar lr cr]] W (ReadEnds W (readP ws nm rs)) := by
  have HH := Lib.hid h
  have hl1 := h.hlw
  have hl2 := h.hla
  have hl3 := h.hlr
  clear h
  obtain ⟨g, hg⟩ : ∃ g, W.heap.size = g := ⟨_, rfl⟩
  have HG := Lib.hid hg
  by_cases hbig : 65536 < ws.length ∨ 65536 < nm.length ∨ 65536 < rs.length
  · have HE := Lib.hid (show readP ws nm rs = .error 90 from by unfold readP; rw [if_pos hbig])
    rw [hl1, hl2, hl3] at hbig
    have HB := Lib.hid hbig
    clear hl1 hl2 hl3 hbig
    go_enter Try.func18, Try.ntmps18
    go_upto_region 1 with (fail)
    refine wp_world (fun V => Below W.heap.size W V ∧ Blk V g 29 #[.slice Aw lw cw, .slice Aa la ca, .slice Ar lr cr]) ⟨below_alloc _ _, by rw [← HG.out]; exact Blk.new _ _ _⟩ ?_
    rintro V ⟨hb, hk⟩
    have HBL := Lib.hid hb
    have x0 := hk.cell 0
    have x1 := hk.cell 1
    have x2 := hk.cell 2
    clear hb hk hg
    by_cases c1 : 65536 < lw
    · have d1 : decide ((65536 : Int) < (lw : Int)) = true := by (simp <;> omega)
      go_wp2
      refine bodyPost_ret (v := .tuple #[.slice none 0 0, .int .i64 90]) (by simp [results, Try.results18, go_sem]) rfl ?_
      rw [HE.out]
      exact ⟨HBL.out, fun er h => by (cases h; exact ⟨by decide, rfl⟩), fun ts h => by cases h⟩
    · have d1 : decide ((65536 : Int) < (lw : Int)) = false := by (simp <;> omega)
      by_cases c2 : 65536 < la
      · have d2 : decide ((65536 : Int) < (la : Int)) = true := by (simp <;> omega)
        go_wp2
        refine bodyPost_ret (v := .tuple #[.slice none 0 0, .int .i64 90]) (by simp [results, Try.results18, go_sem]) rfl ?_
        rw [HE.out]
        exact ⟨HBL.out, fun er h => by (cases h; exact ⟨by decide, rfl⟩), fun ts h => by cases h⟩
      · have d2 : decide ((65536 : Int) < (la : Int)) = false := by (simp <;> omega)
        have d3 : decide ((65536 : Int) < (lr : Int)) = true := by have := HB.out; (simp <;> omega)
        go_wp2
        refine bodyPost_ret (v := .tuple #[.slice none 0 0, .int .i64 90]) (by simp [results, Try.results18, go_sem]) rfl ?_
        rw [HE.out]
        exact ⟨HBL.out, fun er h => by (cases h; exact ⟨by decide, rfl⟩), fun ts h => by cases h⟩
  · have HE1 := Lib.hid (show readP ws nm rs = (match rdL (fun y l => rdT ws nm ws.length y l) rs 4096 with | .error e => .error e | .ok (ts, _) => .ok ts) from by unfold readP; rw [if_neg hbig]; rfl)
    rw [hl1] at HE1
    rw [hl1, hl2, hl3] at hbig
    have hb1 : lw ≤ 65536 := by omega
    have hb2 : la ≤ 65536 := by omega
    have hb3 : lr ≤ 65536 := by omega
    have d1 : decide ((65536 : Int) < (lw : Int)) = false := by (simp <;> omega)
    have d2 : decide ((65536 : Int) < (la : Int)) = false := by (simp <;> omega)
    have d3 : decide ((65536 : Int) < (lr : Int)) = false := by (simp <;> omega)
    clear hl1 hl2 hl3 hbig
    go_enter Try.func18, Try.ntmps18
    go_upto_region 1 with (fail)
    refine wp_world (fun V => Below W.heap.size W V ∧ Blk V g 29 #[.slice Aw lw cw, .slice Aa la ca, .slice Ar lr cr]) ⟨below_alloc _ _, by rw [← HG.out]; exact Blk.new _ _ _⟩ ?_
    rintro V ⟨hb, hk⟩
    have HBL := Lib.hid hb
    have HK := Lib.hid hk
    have x0 := hk.cell 0
    have x1 := hk.cell 1
    have x2 := hk.cell 2
    clear hb hk hg
    go_upto_region 4 with (fail)
    obtain ⟨pw, hpw⟩ : ∃ pw, V.heap.size = pw := ⟨_, rfl⟩
    rw [hpw]
    refine wp_world (fun V' => Below W.heap.size W V' ∧ Blk V' g 29 #[.slice Aw lw cw, .slice Aa la ca, .slice Ar lr cr] ∧ Blk V' pw 83 #[.slice Aw lw cw, .slice Aa la ca, .slice Ar lr cr, .int .i64 ((4096 : Nat) : Int), .int .i64 0] ∧ g < pw) ⟨below_step HBL.out (below_alloc _ _), HK.out.alloc _, by rw [← hpw]; exact Blk.new _ _ _, by have := HK.out.lt; omega⟩ ?_
    clear HBL HK x0 x1 x2 hpw d1 d2 d3
    rintro V1 ⟨h1, h2, h3, h4⟩
    have HBL := Lib.hid h1
    have HK := Lib.hid h2
    have HW := Lib.hid h3
    have HGP := Lib.hid h4
    clear h1 h2 h3 h4
    go_wp2
    have HIH := Lib.hid (qterm_any (w0 := W) (pw := pw) (Aw := Aw) (lw := lw) (cw := cw) (Aa := Aa) (la := la) (ca := ca) (Ar := Ar) (lr := lr) (cr := cr) (ws := ws) (nm := nm) (by have := HGP.out; have := HG.out; omega) HH.out.w HH.out.a HH.out.hlw HH.out.hla HH.out.w64 (by omega) (by omega) lw (Nat.le_refl _))
    go_loopw [5, 6] (fun v ix wr => ∃ (j : Nat) (Aj : Option Addr) (nj cj : Nat), j ≤ lr ∧ ix = .int .i64 j ∧ v = .slice Aj nj cj ∧ Blk wr g 29 #[.slice Aw lw cw, .slice Aa la ca, .slice Ar lr cr] ∧ Below W.heap.size W wr ∧
      ((∃ (lj : Nat) (cs : List Value) (ts : List TV), nj = j ∧ rdL (fun y l => rdT ws nm lw y l) (rs.take j) 4096 = .ok (ts, lj) ∧ RI (pw + 1) wr Aj j cj cs ts ∧ Blk wr pw 83 #[.slice Aw lw cw, .slice Aa la ca, .slice Ar lr cr, .int .i64 (lj : Int), .int .i64 0]) ∨
       (∃ (er : Nat) (l : Int), er ≠ 0 ∧ readP ws nm rs = .error er ∧ Blk wr pw 83 #[.slice Aw lw cw, .slice Aa la ca, .slice Ar lr cr, .int .i64 l, .int .i64 (er : Int)]))) (fun _ ix _ => lr - (intOf ix).toNat)
    case atStart => exact ⟨0, none, 0, 0, Nat.zero_le _, rfl, rfl, HK.out, HBL.out, .inl ⟨4096, [], [], rfl, rfl, ⟨World.ownsRow_nil _ _ _ _, std_nil _⟩, HW.out⟩⟩
    case round =>
      obtain ⟨j, Aj, nj, cj, hj, rfl, rfl, hk, hbl, hcase⟩ := hrel
      clear HW HK HBL
      have w0 := hk.cell 0
      have w2 := hk.cell 2
      rcases hcase with ⟨lj, cs, ts, rfl, hrd, hri, hw⟩ | ⟨er, l, hne, hre, hw⟩
      · have hlj : lj ≤ 4096 := rdL_le (f := fun y l => rdT ws nm lw y l) (fun y l t l' => rdT_le lw y l t l') _ _ _ _ hrd
        have hpsz : pw < wr.heap.size := hw.lt
        have x4 := hw.cell 4
        by_cases hlt : nj < lr
        · have hd1 : decide (nj < lr) = true := by simp; omega
          have hkl : nj < rs.length := by rw [HH.out.hlr]; exact hlt
          obtain ⟨y, hy⟩ : ∃ y, rs[nj]? = some y := ⟨_, List.getElem?_eq_getElem hkl⟩
          obtain ⟨b', o', rfl, hcy⟩ := HH.out.r.at_ (j := nj) (v := nv y) (by simp [hy])
          unfold nv at hcy
          have HCY : Hid (∀ V, Below W.heap.size W V → V.cell? ⟨b', o' + nj, none⟩ = some (.int .u64 (y : Int))) := fun V hV => (hV.cell (World.block_lt_of_cell? W _ hcy)).trans hcy
          have hy64 : y < 18446744073709551616 := HH.out.r64 y (List.mem_of_getElem? hy)
          have hq1 : (0 : Int) ≤ (nj : Int) := by omega
          have hq2 : (nj : Int) < (lr : Int) := by omega
          have htk : rs.take (nj + 1) = rs.take nj ++ [y] := by rw [List.take_add_one, hy]; rfl
          have hsp : rs = rs.take nj ++ y :: rs.drop (nj + 1) := by
            obtain ⟨h8, h7⟩ := List.getElem?_eq_some_iff.1 hy
            conv => lhs; rw [← List.take_append_drop nj rs, List.drop_eq_getElem_cons h8, h7]
          have HCALL := Lib.hid (HIH.out y lj wr.drew hy64 hlj hbl.drew (show Blk wr.drew pw _ _ from hw))
          have HRD := Lib.hid hrd
          have HRI := Lib.hid hri
          have HW := Lib.hid hw
          have HK := Lib.hid hk
          have HBL := Lib.hid hbl
          have HTK := Lib.hid htk
          have HSP := Lib.hid hsp
          clear hrd hri hw hk hbl hcy hy htk hsp hkl
          go_upto_region 8 with (fail)
          clear x4 w0 w2
          refine wp_region_W 13 (fun V => V.cell? ⟨g, 2, none⟩ = some (.slice (some ⟨b', o', none⟩) lr cr) ∧ V.cell? ⟨g, 0, none⟩ = some (.slice Aw lw cw) ∧ V.cell? ⟨b', o' + nj, none⟩ = some (.int .u64 (y : Int))) (by kernel_rfl) ?_ (fun hS0 => ?_)
          · exact ⟨HK.out.cell 2, HK.out.cell 0, HCY.out _ HBL.out.drew⟩
          (refine wpAnyW_take (i := 0) (v := ?_) rfl (by kernel_rfl) (by kernel_rfl) (by kernel_rfl) (by kernel_rfl) (fun _ _ _ h => h) (Or.inl ⟨by kernel_rfl, ?_⟩) (by assumption) ?_; rotate_left; focus (intro V9 hS9; go_simp; (try (with_reducible rfl)); done))
          try simp only [Act.put, List.getElem_toArray, List.getElem_cons_zero, List.setIfInBounds_toArray, List.set_cons_succ, List.set_cons_zero]
          (refine wpAnyW_take (i := 1) (v := ?_) rfl (by kernel_rfl) (by kernel_rfl) (by kernel_rfl) (by kernel_rfl) (fun _ _ _ h => h) (Or.inl ⟨by kernel_rfl, ?_⟩) (by assumption) ?_; rotate_left; focus (intro V9 hS9; go_simp; (try (with_reducible rfl)); done))
          try simp only [Act.put, List.getElem_toArray, List.getElem_cons_succ, List.getElem_cons_zero, List.setIfInBounds_toArray, List.set_cons_succ, List.set_cons_zero]
          (refine wpAnyW_take (i := 2) (v := ?_) rfl (by kernel_rfl) (by kernel_rfl) (by kernel_rfl) (by kernel_rfl) (fun _ _ _ h => h) (Or.inl ⟨by kernel_rfl, ?_⟩) (by assumption) ?_; rotate_left; focus (intro V9 hS9; go_simp; (try (with_reducible rfl)); done))
          try simp only [Act.put, List.getElem_toArray, List.getElem_cons_succ, List.getElem_cons_zero, List.setIfInBounds_toArray, List.set_cons_succ, List.set_cons_zero]
          (refine wpAnyW_take (i := 3) (v := ?_) rfl (by kernel_rfl) (by kernel_rfl) (by kernel_rfl) (by kernel_rfl) (fun _ _ _ h => h) (Or.inl ⟨by kernel_rfl, ?_⟩) (by assumption) ?_; rotate_left; focus (intro V9 hS9; obtain ⟨g9, g8, g7⟩ := hS9; go_simp; (try (with_reducible rfl)); done))
          try simp only [Act.put, List.getElem_toArray, List.getElem_cons_succ, List.getElem_cons_zero, List.setIfInBounds_toArray, List.set_cons_succ, List.set_cons_zero]
          (refine wpAnyW_take (i := 4) (v := ?_) rfl (by kernel_rfl) (by kernel_rfl) (by kernel_rfl) (by kernel_rfl) (fun _ _ _ h => h) (Or.inl ⟨by kernel_rfl, ?_⟩) (by assumption) ?_; rotate_left; focus (intro V9 hS9; go_simp; (try (with_reducible rfl)); done))
          try simp only [Act.put, List.getElem_toArray, List.getElem_cons_succ, List.getElem_cons_zero, List.setIfInBounds_toArray, List.set_cons_succ, List.set_cons_zero]
          (refine wpAnyW_take (i := 5) (v := ?_) rfl (by kernel_rfl) (by kernel_rfl) (by kernel_rfl) (by kernel_rfl) (fun _ _ _ h => h) (Or.inl ⟨by kernel_rfl, ?_⟩) (by assumption) ?_; rotate_left; focus (intro V9 hS9; go_simp; (try (with_reducible rfl)); done))
          try simp only [Act.put, List.getElem_toArray, List.getElem_cons_succ, List.getElem_cons_zero, List.setIfInBounds_toArray, List.set_cons_succ, List.set_cons_zero]
          (refine wpAnyW_take (i := 6) (v := ?_) rfl (by kernel_rfl) (by kernel_rfl) (by kernel_rfl) (by kernel_rfl) (fun _ _ _ h => h) (Or.inl ⟨by kernel_rfl, ?_⟩) (by assumption) ?_; rotate_left; focus (intro V9 hS9; obtain ⟨g9, g8, g7⟩ := hS9; go_simp; (try (with_reducible rfl)); done))
          try simp only [Act.put, List.getElem_toArray, List.getElem_cons_succ, List.getElem_cons_zero, List.setIfInBounds_toArray, List.set_cons_succ, List.set_cons_zero]
          (refine wpAnyW_take (i := 7) (v := ?_) rfl (by kernel_rfl) (by kernel_rfl) (by kernel_rfl) (by kernel_rfl) (fun _ _ _ h => h) (Or.inl ⟨by kernel_rfl, ?_⟩) (by assumption) ?_; rotate_left; focus (intro V9 hS9; go_simp; (try (with_reducible rfl)); done))
          try simp only [Act.put, List.getElem_toArray, List.getElem_cons_succ, List.getElem_cons_zero, List.setIfInBounds_toArray, List.set_cons_succ, List.set_cons_zero]
          (refine wpAnyW_take (i := 8) (v := ?_) rfl (by kernel_rfl) (by kernel_rfl) (by kernel_rfl) (by kernel_rfl) (fun _ _ _ h => h) (Or.inl ⟨by kernel_rfl, ?_⟩) (by assumption) ?_; rotate_left; focus (intro V9 hS9; obtain ⟨g9, g8, g7⟩ := hS9; go_simp; (try (with_reducible rfl)); done))
          try simp only [Act.put, List.getElem_toArray, List.getElem_cons_succ, List.getElem_cons_zero, List.setIfInBounds_toArray, List.set_cons_succ, List.set_cons_zero]
          (refine wpAnyW_take (i := 9) (v := ?_) rfl (by kernel_rfl) (by kernel_rfl) (by kernel_rfl) (by kernel_rfl) (fun _ _ _ h => h) (Or.inl ⟨by kernel_rfl, ?_⟩) (by assumption) ?_; rotate_left; focus (intro V9 hS9; go_simp; (try (with_reducible rfl)); done))
          try simp only [Act.put, List.getElem_toArray, List.getElem_cons_succ, List.getElem_cons_zero, List.setIfInBounds_toArray, List.set_cons_succ, List.set_cons_zero]
          refine wpAnyW_ready (rs := [10]) (by kernel_rfl) (by simp) ?_
          refine AllReadyW.cons rfl (fun K hK => ?_) AllReadyW.nil
          go_simp
          refine HCALL.out.mono ?_
          rintro r w6 ⟨hf6, k6, i6, s6, A6, n6, c6, rfl, her, hok⟩
          have hfA : Fr (fun k => k = pw) wr w6 := ⟨hf6.os, hf6.tape, hf6.output, hf6.size, hf6.block⟩
          have hbl6 : Below W.heap.size W w6 := HBL.out.trans (hfA.below HBL.out.size (fun k hk => by rw [hk]; have := HGP.out; have := HG.out; omega))
          have hk6 := hfA.blk HK.out (fun e => by have := HGP.out; omega)
          refine hK.out _ _ ⟨hk6.cell 2, hk6.cell 0, HCY.out w6 hbl6⟩ (fun _ => ?_)
          clear hK K
          try simp only [Act.put, List.getElem_toArray, List.getElem_cons_succ, List.getElem_cons_zero, List.setIfInBounds_toArray, List.set_cons_succ, List.set_cons_zero]
          refine wpAnyW_ready (rs := [11]) (by kernel_rfl) (by simp) ?_
          refine AllReadyW.cons rfl (fun K hK => ?_) AllReadyW.nil
          go_simp
          refine hK.out _ _ ⟨(hk6.alloc _).cell 2, (hk6.alloc _).cell 0, HCY.out _ (hbl6.trans ((below_alloc _ _).mono hbl6.size))⟩ (fun _ => ?_)
          clear hK K
          try simp only [Act.put, List.getElem_toArray, List.getElem_cons_succ, List.getElem_cons_zero, List.setIfInBounds_toArray, List.set_cons_succ, List.set_cons_zero]
          have hR6 := (HRI.out.step hfA (fun k hk => by rw [hk]; omega)).step (Fr.alloc (fun _ => False) w6 (.cells #[.int .i64 k6, .int .i64 i6, .string ⟨s6.toArray⟩, .slice A6 n6 c6] 37)) (fun _ h => h.elim)
          have hsz6 : pw + 1 ≤ w6.heap.size := Nat.le_trans hpsz hfA.size
          refine wpAnyW_ready (rs := [12]) (by kernel_rfl) (by simp) ?_
          refine AllReadyW.cons rfl (fun K hK => ?_) AllReadyW.nil
          refine step_appO termT (by kernel_rfl) (.tmp 40) (.tmp 51) rfl (pw + 1) nj cs (.slice Aj nj cj) hR6.own (some ⟨w6.heap.size, 0, none⟩) 1 1 [.int .i64 k6, .int .i64 i6, .string ⟨s6.toArray⟩, .slice A6 n6 c6] (by rfl) (by rfl) rfl (blk_cs (Blk.new w6 _ _)) (by intro u hu; simp only [List.mem_cons, List.mem_nil_iff, or_false] at hu; rcases hu with rfl | rfl | rfl | rfl <;> rfl) (by unfold maxLen; omega) (by omega) (Nat.le_trans hsz6 (below_alloc _ _).size) ?_
          intro v7 w7 ho7 hg7 hat7
          have hrow : ∀ q, (Value.slice Aj nj cj).ownBlock = some q → pw < q := fun q hq => (own_heap hR6.own hq).1
          have hblk : ∀ {q t' : Nat} {cc : Array Value}, Blk w6 q t' cc → q ≤ pw → Blk w7 q t' cc := fun {q t' cc} h9 hq => (h9.alloc (.cells #[.int .i64 k6, .int .i64 i6, .string ⟨s6.toArray⟩, .slice A6 n6 c6] 37)).grown hg7 (fun e => by have := hrow q e.symm; omega)
          have hbl7 : Below W.heap.size W w7 := (hbl6.trans ((below_alloc w6 (.cells #[.int .i64 k6, .int .i64 i6, .string ⟨s6.toArray⟩, .slice A6 n6 c6] 37)).mono hbl6.size)).grown hg7 (Nat.le_trans hbl6.size (below_alloc w6 _).size) (fun q hq => by have := hrow q hq; have := HGP.out; have := HG.out; omega)
          have hk7 := hblk hk6 (Nat.le_of_lt HGP.out)
          refine hK.out _ _ ⟨hk7.cell 2, hk7.cell 0, HCY.out w7 hbl7⟩ (fun _ => ?_)
          clear hK K
          try simp only [Act.put, List.getElem_toArray, List.getElem_cons_succ, List.getElem_cons_zero, List.setIfInBounds_toArray, List.set_cons_succ, List.set_cons_zero]
          obtain ⟨A7, c7, rfl⟩ := own_sl ho7
          refine wpAnyW_ready (rs := [13]) (by kernel_rfl) (by simp) ?_
          refine AllReadyW.consE rfl (by kernel_rfl) (fun K hK => ?_) AllReadyW.nil
          go_simp
          refine hK.out _ _ ?_
          clear hK K
          refine wpAnyW_done (by kernel_rfl) ?_ _
          cases hrr : rdT ws nm lw y lj with
          | error er =>
            obtain ⟨hne, l9, hb9⟩ := her er hrr
            have HE := Lib.hid (show readP ws nm rs = .error er from by
              rw [HE1.out]
              have h9 : rdL (fun y l => rdT ws nm lw y l) rs 4096 = .error er := by
                rw [HSP.out, rdL_append, HRD.out]
                simp only [rdL, hrr]
              rw [h9])
            have HEND := Lib.hid (And.intro hk7 (And.intro hbl7 (And.intro hne (And.intro HE.out (hblk hb9 (Nat.le_refl _))))))
            clear her hok hR6 ho7 hg7 hat7 hf6 hfA hbl6 hk6 hrow hblk hbl7 hk7 hb9 hrr hne HE hS0 hsz6
            go_wp2
            go_roundw
            case rel => exact ⟨nj + 1, A7, nj + 1, c7, by omega, by go_num, rfl, HEND.out.1, HEND.out.2.1, .inr ⟨er, l9, HEND.out.2.2.1, HEND.out.2.2.2.1, HEND.out.2.2.2.2⟩⟩
            case measure => simp [intOf]; omega
          | ok q2 =>
            obtain ⟨t9, l9⟩ := q2
            obtain ⟨hT9, hb9⟩ := hok t9 l9 hrr
            have hTA : TEx (fun k => k < pw + 1 ∨ (Value.slice Aj nj cj).ownBlock = some k) (w6.alloc (.cells #[.int .i64 k6, .int .i64 i6, .string ⟨s6.toArray⟩, .slice A6 n6 c6] 37)) (.agg #[.int .i64 k6, .int .i64 i6, .string ⟨s6.toArray⟩, .slice A6 n6 c6]) t9 := (TEx.weak hT9 (fun q hq h9 => by
              rcases h9 with h9 | h9
              · show q < wr.heap.size
                omega
              · show q < wr.heap.size
                exact (own_heap HRI.out.own h9).2.1)).below (below_alloc _ _)
            have hRI9 := hR6.add (Nat.le_trans hsz6 (below_alloc _ _).size) hTA ho7 hg7 hat7
            have HEND := Lib.hid (And.intro hk7 (And.intro hbl7 (And.intro (show rdL (fun y l => rdT ws nm lw y l) (rs.take (nj + 1)) 4096 = .ok (ts ++ [t9], l9) from by
              rw [HTK.out, rdL_append, HRD.out]
              simp only [rdL, hrr]) (And.intro hRI9 (hblk hb9 (Nat.le_refl _))))))
            clear her hok hR6 ho7 hg7 hat7 hf6 hfA hbl6 hk6 hrow hblk hbl7 hk7 hb9 hrr hTA hRI9 hT9 hS0 hsz6
            go_wp2
            go_roundw
            case rel => exact ⟨nj + 1, A7, nj + 1, c7, by omega, by go_num, rfl, HEND.out.1, HEND.out.2.1, .inl ⟨l9, _, _, rfl, HEND.out.2.2.1, HEND.out.2.2.2.1, HEND.out.2.2.2.2⟩⟩
            case measure => simp [intOf]; omega
        · obtain rfl : lr = nj := by omega
          have hd1 : decide (lr < lr) = false := by simp
          have htl : rs.take lr = rs := List.take_of_length_le (by rw [HH.out.hlr]; exact Nat.le_refl _)
          rw [htl] at hrd
          have HE := Lib.hid (show readP ws nm rs = .ok ts from by rw [HE1.out, hrd])
          have hlt9 : ts.length = lr := by rw [rdL_len hrd, HH.out.hlr]
          have HTL := Lib.hid hlt9
          have HRI := Lib.hid hri
          have HBL := Lib.hid hbl
          clear hrd hri hw hk hbl htl hlt9 HE1
          go_wp2
          refine bodyPost_ret (v := .tuple #[.slice Aj lr cj, .int .i64 0]) (by simp [results, Try.results18, go_sem]) rfl ?_
          rw [HE.out]
          refine ⟨HBL.out, (fun er h => by cases h), fun ts' h => ?_⟩
          cases h
          have h9 := (lex_own (X := fun k => k < pw + 1) HRI.out.own (fun _ h => h) (HRI.out.std.kept (kept_step (Fr.refl (fun _ => False) wr) (fun _ _ h => h.elim) (fun k _ hk => .inl hk)))).1
          exact ⟨Aj, cj, by rw [HTL.out], by rw [HTL.out]; exact h9.weak (fun q _ hq => by show q < pw + 1; have := HGP.out; have := HG.out; omega)⟩
      · have de : ((er : Int) == 0) = false := by simpa using hne
        have de2 : ((er : Int) != 0) = true := by simpa using hne
        have x4 := hw.cell 4
        have HNE := Lib.hid hne
        have HRE := Lib.hid hre
        have HBL := Lib.hid hbl
        clear hne hre hbl hw hk
        by_cases hlt : j < lr
        · have hd1 : decide (j < lr) = true := by simp; omega
          go_upto_region 10 with (fail)
          go_quiet (fail)
          go_wp2
          refine bodyPost_ret (v := .tuple #[.slice none 0 0, .int .i64 (er : Int)]) (by simp [results, Try.results18, go_sem]) rfl ?_
          rw [HRE.out]
          exact ⟨⟨HBL.out.os, HBL.out.tape, HBL.out.output, HBL.out.size, HBL.out.block⟩, (fun er' h => by (cases h; exact ⟨HNE.out, rfl⟩)), (fun ts h => by cases h)⟩
        · obtain rfl : lr = j := by omega
          have hd1 : decide (lr < lr) = false := by simp
          go_upto_region 10 with (fail)
          go_quiet (fail)
          go_wp2
          refine bodyPost_ret (v := .tuple #[.slice none 0 0, .int .i64 (er : Int)]) (by simp [results, Try.results18, go_sem]) rfl ?_
          rw [HRE.out]
          exact ⟨⟨HBL.out.os, HBL.out.tape, HBL.out.output, HBL.out.size, HBL.out.block⟩, (fun er' h => by (cases h; exact ⟨HNE.out, rfl⟩)), (fun ts h => by cases h)⟩
end
end
section
open Go.RowKit
set_option linter.unusedVariables false

section
variable {W : World} {Aw Aa Ar : Option Addr} {lw cw la ca lr cr : Nat} {ws rs : List Nat} {nm : List (List UInt8)}
set_option maxRecDepth 100000 in
set_option maxHeartbeats 4000000 in
theorem rcollect_v (W : World) (h : HRd W Aw lw cw Aa la ca Ar lr cr ws nm rs) (roots : List Int) (Ab : Option Addr) (nb cb : Nat) (hlb : roots.length = nb) (hkb : RdK .i64 W Ab roots) (hnb : nb ≤ 1000000) :
    Calls Try.prog 25 #[.agg #[.slice Aw lw cw, .slice Aa la ca, .slice Ar lr cr], .slice Ab nb cb] W (ColEnds W (collectP ws nm rs roots)) := by
  have HRDV := Lib.hid (fun V (hV : Below W.heap.size W V) => rread_v V (h.below hV))
  have HKB := Lib.hid hkb
  have HLB := Lib.hid hlb
  have HCP : Hid (collectP ws nm rs roots = match readP ws nm rs with
    | .error e => .error e
    | .ok ts => if ∀ i ∈ roots, 0 ≤ i ∧ i < (ts.length : Int) then (if checkP (roots.map (pk ts)) = 0 then .ok (layS (roots.map (pk ts))) else .error (checkP (roots.map (pk ts)))) else .error 2) := Lib.hid rfl
  have HRL : Hid (∀ ts, readP ws nm rs = .ok ts → TV.isL ts = true ∧ TV.partsL ts ≤ 4096) := Lib.hid fun ts h9 => ⟨(readP_isL h.w64 h.r64 h9).1, (readP_isL h.w64 h.r64 h9).2.1⟩
  clear h hkb hlb
  generalize collectP ws nm rs roots = R at *
  generalize readP ws nm rs = Q at *
  obtain ⟨g, hg⟩ : ∃ g, W.heap.size = g := ⟨_, rfl⟩
  have HG := Lib.hid hg
  go_enter Try.func25, Try.ntmps25
  go_upto_region 1 with (fail)
  refine wp_world (fun V => Below W.heap.size W V ∧ Blk V g 29 #[.slice Aw lw cw, .slice Aa la ca, .slice Ar lr cr] ∧ Blk V (g + 1) 29 #[.slice none 0 0, .slice none 0 0, .slice none 0 0]) ⟨below_step (below_alloc _ _) (below_alloc _ _), by rw [← HG.out]; exact (Blk.new _ _ _).alloc _, by rw [← HG.out]; exact Blk.newAt (by simp)⟩ ?_
  rintro V0 ⟨hb, hk, hk2⟩
  have HB0 := Lib.hid hb
  have HK0 := Lib.hid hk
  have HT0 := Lib.hid hk2
  have x0 := hk.cell 0
  have x1 := hk.cell 1
  have x2 := hk.cell 2
  clear hb hk hk2 hg
  cases hQ : Q with
  | error er =>
    rw [hQ] at HRDV HCP
    simp only at HCP
    clear hQ HRL
    go_upto_region 2 with (go_at_call 18; refine (HRDV.out V0 HB0.out).mono ?_; rintro e w1 ⟨hb1, hq, _⟩; obtain ⟨hne, rfl⟩ := hq er rfl)
    refine wp_world (fun V => Below W.heap.size W V ∧ Blk V (g + 1) 29 #[.slice none 0 0, .slice none 0 0, .slice none 0 0]) ⟨below_step HB0.out hb1, HT0.out.keep hb1⟩ ?_
    clear hb1 HB0 HK0 HT0 x0 x1 x2
    rintro V1 ⟨hb, hk⟩
    have HB := Lib.hid hb
    have HK := Lib.hid hk
    have z0 := hk.cell 0
    have z1 := hk.cell 1
    have z2 := hk.cell 2
    have zf0 := hk.frozen 0
    have zf1 := hk.frozen 1
    have zf2 := hk.frozen 2
    have HNE := Lib.hid hne
    have d1 : ((er : Int) != 0) = true := by simpa using hne
    clear hb hk hne
    go_wp2
    have hB2 := HK.out.set3 (.slice none 0 0) (.slice none 0 0) (.slice none 0 0)
    have y0 := hB2.cell 0
    have y1 := hB2.cell 1
    have y2 := hB2.cell 2
    refine bodyPost_ret (v := .tuple #[.agg #[.slice none 0 0, .slice none 0 0, .slice none 0 0], .int .i64 (er : Int)]) (by simp [results, Try.results25, go_sem, y0, y1, y2]) rfl ?_
    rw [HCP.out]
    refine ⟨HB.out.trans ((fr_set3 V1 (g + 1) _ _ _).below HB.out.size (fun k hk => by have := HG.out; omega)), fun er' h9 => ?_, fun st h9 => by cases h9⟩
    cases h9
    exact ⟨HNE.out, rfl⟩
  | ok ts =>
    obtain ⟨hisL, hpl⟩ := HRL.out ts hQ
    rw [hQ] at HRDV HCP
    simp only at HCP
    have HIS := Lib.hid hisL
    have hts := len_parts ts
    clear hQ HRL hisL
    obtain ⟨nt, hnt⟩ : ∃ n, ts.length = n := ⟨_, rfl⟩
    rw [hnt] at HCP hts
    have HNT := Lib.hid hnt
    have hnt9 : nt ≤ 4096 := by omega
    go_upto_region 2 with (go_at_call 18; refine (HRDV.out V0 HB0.out).mono ?_; rintro e w1 ⟨hb1, _, hq⟩; obtain ⟨At, ct, rfl, hL⟩ := hq ts rfl)
    rw [hnt] at hL
    try rw [hnt]
    have hLv := hL.val
    refine wp_world (fun V => Below W.heap.size W V ∧ Blk V (g + 1) 29 #[.slice none 0 0, .slice none 0 0, .slice none 0 0] ∧ LVal V (.slice At nt ct) ts) ⟨below_step HB0.out hb1, HT0.out.keep hb1, hLv⟩ ?_
    clear hb1 HB0 HK0 HT0 x0 x1 x2 hL hLv hnt hts HRDV
    rintro V1 ⟨hb, hk, hL⟩
    have HB := Lib.hid hb
    have HK := Lib.hid hk
    have HL := Lib.hid hL
    clear hb hk hL
    go_upto_region 5 with (fail)
    obtain ⟨B, hBs⟩ : ∃ B, V1.heap.size = B := ⟨_, rfl⟩
    have HBS := Lib.hid hBs
    clear hBs
    go_wp2
    go_loopw [8, 9] (fun v ix wr => ∃ (j : Nat) (Aj : Option Addr) (cj : Nat) (cs : List Value), j ≤ nb ∧ ix = .int .i64 j ∧ v = .slice Aj j cj ∧ (∀ i ∈ roots.take j, 0 ≤ i ∧ i < (nt : Int)) ∧ Std V1 cs ((roots.take j).map (pk ts)) ∧ wr.ownsRow B 37 4 (.slice Aj j cj) j cs ∧ Below B V1 wr) (fun _ ix _ => nb - (intOf ix).toNat)
    case atStart => exact ⟨0, none, 0, [], Nat.zero_le _, rfl, rfl, (fun i h9 => by simp at h9), std_nil _, World.ownsRow_nil _ _ _ _, Below.refl _ _⟩
    case round =>
      obtain ⟨j, Aj, cj, cs, hj, rfl, rfl, hall, hstd, hown, hbl⟩ := hrel
      rw [← HBS.out] at hbl
      have HBL := Lib.hid hbl
      have HALL := Lib.hid hall
      have HSTD := Lib.hid hstd
      have HOWN := Lib.hid hown
      have HLE := Lib.hid (Nat.le_trans (Nat.le_of_eq HBS.out.symm) hbl.size)
      clear hall hstd hown
      by_cases hlt : j < nb
      · have hd1 : decide (j < nb) = true := by simp; omega
        have hkl : j < roots.length := by rw [HLB.out]; exact hlt
        obtain ⟨b', o', rfl, hcy⟩ := HKB.out.at_ (k := j) hkl
        have c0 := ((HB.out.trans (hbl.mono HB.out.size)).cell (World.block_lt_of_cell? W _ hcy)).trans hcy
        have htk : roots.take (j + 1) = roots.take j ++ [roots[j]] := by rw [List.take_succ_eq_append_getElem hkl]
        have HMEM := Lib.hid (show roots[j] ∈ roots from List.getElem_mem hkl)
        have hq1 : (0 : Int) ≤ (j : Int) := by omega
        have hq2 : (j : Int) < (nb : Int) := by omega
        generalize roots[j] = i at *
        have HTK := Lib.hid htk
        clear htk hcy hbl hkl
        have stop : Hid (¬ (0 ≤ i ∧ i < (nt : Int)) → R = .error 2) := Lib.hid fun h9 => by
          rw [HCP.out, if_neg]
          exact fun h8 => h9 (h8 i HMEM.out)
        by_cases h0 : i < 0
        · have e0 : decide (i < 0) = true := by simpa using h0
          have HE := Lib.hid (stop.out (by omega))
          go_upto_region 9 with (fail)
          refine wp_world (fun V => Below W.heap.size W V ∧ Blk V (g + 1) 29 #[.slice none 0 0, .slice none 0 0, .slice none 0 0]) ⟨below_step HB.out HBL.out, HK.out.keep HBL.out⟩ ?_
          clear HB HK HL HBL HALL HSTD HOWN HLE c0 stop HMEM HTK
          rintro V7 ⟨hb, hk⟩
          have HB := Lib.hid hb
          have HK := Lib.hid hk
          have z0 := hk.cell 0
          have z1 := hk.cell 1
          have z2 := hk.cell 2
          have zf0 := hk.frozen 0
          have zf1 := hk.frozen 1
          have zf2 := hk.frozen 2
          clear hb hk
          go_wp2
          have hB2 := HK.out.set3 (.slice none 0 0) (.slice none 0 0) (.slice none 0 0)
          have y0 := hB2.cell 0
          have y1 := hB2.cell 1
          have y2 := hB2.cell 2
          refine bodyPost_ret (v := .tuple #[.agg #[.slice none 0 0, .slice none 0 0, .slice none 0 0], .int .i64 2]) (by simp [results, Try.results25, go_sem, y0, y1, y2]) rfl ?_
          rw [HE.out]
          refine ⟨HB.out.trans ((fr_set3 V7 (g + 1) _ _ _).below HB.out.size (fun k hk => by have := HG.out; omega)), fun er' h9 => ?_, fun st h9 => by cases h9⟩
          cases h9
          exact ⟨by decide, rfl⟩
        by_cases h1 : i < (nt : Int)
        rotate_left
        · have e0 : decide (i < 0) = false := by simpa using h0
          have e1 : decide ((nt : Int) ≤ i) = true := by simpa using h1
          have HE := Lib.hid (stop.out (by omega))
          go_upto_region 9 with (fail)
          refine wp_world (fun V => Below W.heap.size W V ∧ Blk V (g + 1) 29 #[.slice none 0 0, .slice none 0 0, .slice none 0 0]) ⟨below_step HB.out HBL.out, HK.out.keep HBL.out⟩ ?_
          clear HB HK HL HBL HALL HSTD HOWN HLE c0 stop HMEM HTK
          rintro V7 ⟨hb, hk⟩
          have HB := Lib.hid hb
          have HK := Lib.hid hk
          have z0 := hk.cell 0
          have z1 := hk.cell 1
          have z2 := hk.cell 2
          have zf0 := hk.frozen 0
          have zf1 := hk.frozen 1
          have zf2 := hk.frozen 2
          clear hb hk
          go_wp2
          have hB2 := HK.out.set3 (.slice none 0 0) (.slice none 0 0) (.slice none 0 0)
          have y0 := hB2.cell 0
          have y1 := hB2.cell 1
          have y2 := hB2.cell 2
          refine bodyPost_ret (v := .tuple #[.agg #[.slice none 0 0, .slice none 0 0, .slice none 0 0], .int .i64 2]) (by simp [results, Try.results25, go_sem, y0, y1, y2]) rfl ?_
          rw [HE.out]
          refine ⟨HB.out.trans ((fr_set3 V7 (g + 1) _ _ _).below HB.out.size (fun k hk => by have := HG.out; omega)), fun er' h9 => ?_, fun st h9 => by cases h9⟩
          cases h9
          exact ⟨by decide, rfl⟩
        obtain ⟨q, rfl⟩ := Int.eq_ofNat_of_zero_le (show (0 : Int) ≤ i by omega)
        have hqn : q < nt := by omega
        have hql : q < ts.length := by rw [HNT.out]; exact hqn
        have e0 : decide ((q : Int) < 0) = false := by simp
        have e1 : decide (nt ≤ q) = false := by simp; omega
        have e2 : decide ((nt : Int) ≤ (q : Int)) = false := by simp; omega
        obtain ⟨A9, n9, c9, e9, _, hR9⟩ := HL.out
        obtain ⟨rfl, rfl, rfl⟩ := Value.slice.inj e9
        have hpk : pk ts (q : Int) = ts[q] := by unfold pk; rw [Int.toNat_natCast, List.getElem?_eq_getElem hql]; rfl
        obtain ⟨b, o, A', c', rfl, y0, y1, y2, y3, hR'⟩ := hR9.item hql
        have hT : TVal V1 (.agg #[.int .i64 ts[q].kind, .int .i64 ts[q].int, .string ⟨ts[q].name.toArray⟩, .slice A' ts[q].items.length c']) ts[q] := ⟨A', _, c', rfl, rfl, hR'⟩
        have u0 := (HBL.out.cell (World.block_lt_of_cell? V1 _ y0)).trans y0
        have u1 := (HBL.out.cell (World.block_lt_of_cell? V1 _ y1)).trans y1
        have u2 := (HBL.out.cell (World.block_lt_of_cell? V1 _ y2)).trans y2
        have u3 := (HBL.out.cell (World.block_lt_of_cell? V1 _ y3)).trans y3
        have HPK := Lib.hid hpk
        have HT := Lib.hid (std_one hT)
        generalize ts[q] = t at *
        have r1 : (0 : Int) ≤ (q : Int) := by omega
        have r2 : (q : Int) < (nt : Int) := by omega
        clear y0 y1 y2 y3 hT hpk hR' hR9 hql e9 stop HMEM h0 h1
        go_upto_region 7 with (at_builtin; refine wpList_app termT rfl (.tmp 40) (.tmp 48) rfl B (.slice Aj j cj) j cs rfl (own_far HOWN.out (below_alloc _ _)) (some ⟨wr.heap.size, 0, none⟩) 1 1 [.int .i64 t.kind, .int .i64 t.int, .string ⟨t.name.toArray⟩, .slice A' t.items.length c'] rfl rfl (blk_cs (Blk.new wr _ _)) (by intro u hu; simp only [List.mem_cons, List.mem_nil_iff, or_false] at hu; rcases hu with rfl | rfl | rfl | rfl <;> rfl) (by unfold maxLen; omega) (by omega) (Nat.le_trans HLE.out (below_alloc _ _).size) ?_; intro v7 w7 ho7 hg7 hat7; obtain ⟨A7, c7, rfl⟩ := own_sl ho7; have HO7 := Lib.hid ho7; have HG7 := Lib.hid hg7; clear ho7 hg7 hat7)
        have hbl7 : Below B V1 w7 := by
          have h9 := HBL.out
          rw [HBS.out] at h9
          exact (h9.alloc HLE.out _).grown HG7.out (Nat.le_trans HLE.out (below_alloc _ _).size) (fun k hk => (own_heap HOWN.out hk).1)
        have HEND := Lib.hid (show (∀ i ∈ roots.take (j + 1), 0 ≤ i ∧ i < (nt : Int)) ∧ Std V1 (cs ++ [.int .i64 t.kind, .int .i64 t.int, .string ⟨t.name.toArray⟩, .slice A' t.items.length c']) ((roots.take (j + 1)).map (pk ts)) ∧ w7.ownsRow B 37 4 (.slice A7 (j + 1) c7) (j + 1) (cs ++ [.int .i64 t.kind, .int .i64 t.int, .string ⟨t.name.toArray⟩, .slice A' t.items.length c']) ∧ Below B V1 w7 from by
          refine ⟨?_, ?_, HO7.out, hbl7⟩
          · rw [HTK.out]
            intro i hi
            rcases List.mem_append.1 hi with h9 | h9
            · exact HALL.out i h9
            · rw [List.mem_singleton.1 h9]; exact ⟨r1, r2⟩
          · rw [HTK.out, List.map_append, List.map_singleton, HPK.out]
            exact HSTD.out.append HT.out)
        clear hbl7 HO7 HG7 HT HPK HTK HSTD HALL HOWN HBL u0 u1 u2 u3 c0
        go_wp2
        go_roundw
        case rel => exact ⟨j + 1, A7, c7, _, by omega, by go_num, rfl, HEND.out⟩
        case measure => simp [intOf]; omega
      · obtain rfl : nb = j := by omega
        have hd1 : decide (nb < nb) = false := by simp
        have htl : roots.take nb = roots := List.take_of_length_le (by rw [HLB.out]; exact Nat.le_refl _)
        have hall := HALL.out
        have hstd := HSTD.out
        rw [htl] at hall hstd
        have hpl9 : (roots.map (pk ts)).length = nb := by rw [List.length_map]; exact HLB.out
        have HLV := col_lval HOWN.out (hstd.kept (Kept.of_below HBL.out))
        obtain ⟨A9, n9, c9, e9, hl9, hR9⟩ := HLV
        obtain ⟨rfl, rfl, rfl⟩ := Value.slice.inj e9
        have HLAY := Lib.hid (rlay_v (roots.map (pk ts)) Aj nb cj wr hpl9 (isL_named _ (pk_isL HIS.out roots)) hR9)
        rw [if_pos hall] at HCP
        have HKW := Lib.hid (HK.out.keep HBL.out)
        have HBW := Lib.hid (below_step HB.out HBL.out)
        clear hall hstd htl hpl9 hR9 e9 hl9 HSTD HALL HOWN HBL hbl HB HK HL
        generalize roots.map (pk ts) = acc at *
        have HGW := Lib.hid (show W.heap.size ≤ wr.heap.size from HBW.out.size)
        have HGL := Lib.hid HKW.out.lt
        by_cases hck : checkP acc = 0
        · rw [if_pos hck] at HCP
          have HCK := Lib.hid hck
          clear hck
          have HST := Lib.hid (show ∀ st, R = .ok st → st = layS acc from fun st h9 => by rw [HCP.out] at h9; cases h9; rfl)
          obtain ⟨m1, hm1⟩ : ∃ m, (layS acc).1.ws.length = m := ⟨_, rfl⟩
          obtain ⟨m2, hm2⟩ : ∃ m, (layS acc).1.nm.length = m := ⟨_, rfl⟩
          obtain ⟨m3, hm3⟩ : ∃ m, (layS acc).2.length = m := ⟨_, rfl⟩
          have HM := Lib.hid (And.intro hm1 (And.intro hm2 hm3))
          clear hm1 hm2 hm3
          go_wp2_with (go_at_call 15; refine HLAY.out.mono ?_; rintro e w2 ⟨hb2, hq⟩; rcases hq with ⟨hq, _⟩ | ⟨_, vw, va, vr, rfl, ho⟩; (exact absurd HCK.out hq); obtain ⟨i1, i2, i3⟩ := HM.out; have ow := ho.w; have oa := ho.a; have orr := ho.r; rw [i1] at ow; rw [i2] at oa; rw [i3] at orr; obtain ⟨Bw, dw, rfl⟩ := own_sl ow; obtain ⟨Ba, da, rfl⟩ := own_sl oa; obtain ⟨Br, dr, rfl⟩ := own_sl orr; have HO := Lib.hid ho; clear ow oa orr; have HB2 := Lib.hid hb2; have hk2 := HKW.out.keep hb2; have HK2 := Lib.hid hk2; have z0 := hk2.cell 0; have z1 := hk2.cell 1; have z2 := hk2.cell 2; have zf0 := hk2.frozen 0; have zf1 := hk2.frozen 1; have zf2 := hk2.frozen 2; clear ho hb2 hk2 i1 i2 i3)
          have hB2 := HK2.out.set3 (.slice Bw m1 dw) (.slice Ba m2 da) (.slice Br m3 dr)
          have y0 := hB2.cell 0
          have y1 := hB2.cell 1
          have y2 := hB2.cell 2
          refine bodyPost_ret (v := .tuple #[.agg #[.slice Bw m1 dw, .slice Ba m2 da, .slice Br m3 dr], .int .i64 0]) (by simp [results, Try.results25, go_sem, y0, y1, y2]) rfl ?_
          refine ⟨(below_step HBW.out HB2.out).trans ((fr_set3 w2 (g + 1) _ _ _).below (below_step HBW.out HB2.out).size (fun k hk => by have := HG.out; omega)), fun er' h9 => (by rw [HCP.out] at h9; cases h9), fun st h9 => ?_⟩
          obtain rfl := HST.out st h9
          have ho := HO.out
          exact ⟨_, _, _, rfl, (ho.set3 HGL.out _ _ _).up HGW.out⟩
        · rw [if_neg hck] at HCP
          have HCK := Lib.hid hck
          obtain ⟨ck, hce⟩ : ∃ ck, checkP acc = ck := ⟨_, rfl⟩
          have HCE := Lib.hid hce
          clear hck hce
          go_wp2_with (go_at_call 15; refine HLAY.out.mono ?_; rintro e w2 ⟨hb2, hq⟩; rcases hq with ⟨_, rfl⟩ | ⟨hq, _⟩; rotate_left; (exact absurd hq HCK.out); rw [HCE.out]; have HB2 := Lib.hid hb2; have hk2 := HKW.out.keep hb2; have HK2 := Lib.hid hk2; have z0 := hk2.cell 0; have z1 := hk2.cell 1; have z2 := hk2.cell 2; have zf0 := hk2.frozen 0; have zf1 := hk2.frozen 1; have zf2 := hk2.frozen 2; clear hb2 hk2)
          have hB2 := HK2.out.set3 (.slice none 0 0) (.slice none 0 0) (.slice none 0 0)
          have y0 := hB2.cell 0
          have y1 := hB2.cell 1
          have y2 := hB2.cell 2
          refine bodyPost_ret (v := .tuple #[.agg #[.slice none 0 0, .slice none 0 0, .slice none 0 0], .int .i64 (ck : Int)]) (by simp [results, Try.results25, go_sem, y0, y1, y2]) rfl ?_
          refine ⟨(below_step HBW.out HB2.out).trans ((fr_set3 w2 (g + 1) _ _ _).below (below_step HBW.out HB2.out).size (fun k hk => by have := HG.out; omega)), fun er' h9 => ?_, fun st h9 => (by rw [HCP.out] at h9; cases h9)⟩
          rw [HCP.out] at h9
          cases h9
          exact ⟨HCK.out, by rw [HCE.out]⟩
end
end
end Go.Proofs.Ytefnjplfemgibaa
