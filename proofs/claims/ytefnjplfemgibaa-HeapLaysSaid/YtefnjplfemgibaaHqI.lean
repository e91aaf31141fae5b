/- Heap (layer 9): the document's Read. -/
import Derived.Test.YtefnjplfemgibaaHqH
namespace Go.Proofs.Ytefnjplfemgibaa
open Go.RowKit
set_option linter.unusedVariables false

section
variable {W W' : World} {Aw Aa Ar : Option Addr} {lw cw la ca lr cr : Nat} {ws rs : List Nat} {nm : List (List UInt8)}
set_option maxRecDepth 100000 in
set_option maxHeartbeats 8000000 in
theorem rread_v (W : World) (h : HRd W Aw lw cw Aa la ca Ar lr cr ws nm rs) :
    Calls Try.prog 18 #[.agg #[.slice Aw lw cw, .slice Aa la ca, .slice Ar lr cr]] W (ReadEnds W (readP ws nm rs)) := by
  have HH := Lib.hid h
  have hl1 := h.hlw
  have hl2 := h.hla
  have hl3 := h.hlr
  clear h
  obtain ⟨g, hg⟩ : ∃ g, W.heap.size = g := ⟨_, rfl⟩
  have HG := Lib.hid hg
  by_cases hbig : 65536 < ws.length ∨ 65536 < nm.length ∨ 65536 < rs.length
  · have HE := Lib.hid (show readP ws nm rs = .error 90 from by unfold readP; rw [if_pos hbig])
    rw [hl1, hl2, hl3] at hbig
    have HB := Lib.hid hbig
    clear hl1 hl2 hl3 hbig
    go_enter Try.func18, Try.ntmps18
    go_upto_region 1 with (fail)
    refine wp_world (fun V => Below W.heap.size W V ∧ Blk V g 29 #[.slice Aw lw cw, .slice Aa la ca, .slice Ar lr cr]) ⟨below_alloc _ _, by rw [← HG.out]; exact Blk.new _ _ _⟩ ?_
    rintro V ⟨hb, hk⟩
    have HBL := Lib.hid hb
    have x0 := hk.cell 0
    have x1 := hk.cell 1
    have x2 := hk.cell 2
    clear hb hk hg
    by_cases c1 : 65536 < lw
    · have d1 : decide ((65536 : Int) < (lw : Int)) = true := by (simp <;> omega)
      go_wp2
      refine bodyPost_ret (v := .tuple #[.slice none 0 0, .int .i64 90]) (by simp [results, Try.results18, go_sem]) rfl ?_
      rw [HE.out]
      exact ⟨HBL.out, fun er h => by (cases h; exact ⟨by decide, rfl⟩), fun ts h => by cases h⟩
    · have d1 : decide ((65536 : Int) < (lw : Int)) = false := by (simp <;> omega)
      by_cases c2 : 65536 < la
      · have d2 : decide ((65536 : Int) < (la : Int)) = true := by (simp <;> omega)
        go_wp2
        refine bodyPost_ret (v := .tuple #[.slice none 0 0, .int .i64 90]) (by simp [results, Try.results18, go_sem]) rfl ?_
        rw [HE.out]
        exact ⟨HBL.out, fun er h => by (cases h; exact ⟨by decide, rfl⟩), fun ts h => by cases h⟩
      · have d2 : decide ((65536 : Int) < (la : Int)) = false := by (simp <;> omega)
        have d3 : decide ((65536 : Int) < (lr : Int)) = true := by have := HB.out; (simp <;> omega)
        go_wp2
        refine bodyPost_ret (v := .tuple #[.slice none 0 0, .int .i64 90]) (by simp [results, Try.results18, go_sem]) rfl ?_
        rw [HE.out]
        exact ⟨HBL.out, fun er h => by (cases h; exact ⟨by decide, rfl⟩), fun ts h => by cases h⟩
  · have HE1 := Lib.hid (show readP ws nm rs = (match rdL (fun y l => rdT ws nm ws.length y l) rs 4096 with | .error e => .error e | .ok (ts, _) => .ok ts) from by unfold readP; rw [if_neg hbig]; rfl)
    rw [hl1] at HE1
    rw [hl1, hl2, hl3] at hbig
    have hb1 : lw ≤ 65536 := by omega
    have hb2 : la ≤ 65536 := by omega
    have hb3 : lr ≤ 65536 := by omega
    have d1 : decide ((65536 : Int) < (lw : Int)) = false := by (simp <;> omega)
    have d2 : decide ((65536 : Int) < (la : Int)) = false := by (simp <;> omega)
    have d3 : decide ((65536 : Int) < (lr : Int)) = false := by (simp <;> omega)
    clear hl1 hl2 hl3 hbig
    go_enter Try.func18, Try.ntmps18
    go_upto_region 1 with (fail)
    refine wp_world (fun V => Below W.heap.size W V ∧ Blk V g 29 #[.slice Aw lw cw, .slice Aa la ca, .slice Ar lr cr]) ⟨below_alloc _ _, by rw [← HG.out]; exact Blk.new _ _ _⟩ ?_
    rintro V ⟨hb, hk⟩
    have HBL := Lib.hid hb
    have HK := Lib.hid hk
    have x0 := hk.cell 0
    have x1 := hk.cell 1
    have x2 := hk.cell 2
    clear hb hk hg
    go_upto_region 4 with (fail)
    obtain ⟨pw, hpw⟩ : ∃ pw, V.heap.size = pw := ⟨_, rfl⟩
    rw [hpw]
    refine wp_world (fun V' => Below W.heap.size W V' ∧ Blk V' g 29 #[.slice Aw lw cw, .slice Aa la ca, .slice Ar lr cr] ∧ Blk V' pw 83 #[.slice Aw lw cw, .slice Aa la ca, .slice Ar lr cr, .int .i64 ((4096 : Nat) : Int), .int .i64 0] ∧ g < pw) ⟨below_step HBL.out (below_alloc _ _), HK.out.alloc _, by rw [← hpw]; exact Blk.new _ _ _, by have := HK.out.lt; omega⟩ ?_
    clear HBL HK x0 x1 x2 hpw d1 d2 d3
    rintro V1 ⟨h1, h2, h3, h4⟩
    have HBL := Lib.hid h1
    have HK := Lib.hid h2
    have HW := Lib.hid h3
    have HGP := Lib.hid h4
    clear h1 h2 h3 h4
    go_wp2
    have HIH := Lib.hid (qterm_any (w0 := W) (pw := pw) (Aw := Aw) (lw := lw) (cw := cw) (Aa := Aa) (la := la) (ca := ca) (Ar := Ar) (lr := lr) (cr := cr) (ws := ws) (nm := nm) (by have := HGP.out; have := HG.out; omega) HH.out.w HH.out.a HH.out.hlw HH.out.hla HH.out.w64 (by omega) (by omega) lw (Nat.le_refl _))
    go_loopw [5, 6] (fun v ix wr => ∃ (j : Nat) (Aj : Option Addr) (nj cj : Nat), j ≤ lr ∧ ix = .int .i64 j ∧ v = .slice Aj nj cj ∧ Blk wr g 29 #[.slice Aw lw cw, .slice Aa la ca, .slice Ar lr cr] ∧ Below W.heap.size W wr ∧
      ((∃ (lj : Nat) (cs : List Value) (ts : List TV), nj = j ∧ rdL (fun y l => rdT ws nm lw y l) (rs.take j) 4096 = .ok (ts, lj) ∧ RI (pw + 1) wr Aj j cj cs ts ∧ Blk wr pw 83 #[.slice Aw lw cw, .slice Aa la ca, .slice Ar lr cr, .int .i64 (lj : Int), .int .i64 0]) ∨
       (∃ (er : Nat) (l : Int), er ≠ 0 ∧ readP ws nm rs = .error er ∧ Blk wr pw 83 #[.slice Aw lw cw, .slice Aa la ca, .slice Ar lr cr, .int .i64 l, .int .i64 (er : Int)]))) (fun _ ix _ => lr - (intOf ix).toNat)
    case atStart => exact ⟨0, none, 0, 0, Nat.zero_le _, rfl, rfl, HK.out, HBL.out, .inl ⟨4096, [], [], rfl, rfl, ⟨World.ownsRow_nil _ _ _ _, std_nil _⟩, HW.out⟩⟩
    case round =>
      obtain ⟨j, Aj, nj, cj, hj, rfl, rfl, hk, hbl, hcase⟩ := hrel
      clear HW HK HBL
      have w0 := hk.cell 0
      have w2 := hk.cell 2
      rcases hcase with ⟨lj, cs, ts, rfl, hrd, hri, hw⟩ | ⟨er, l, hne, hre, hw⟩
      · have hlj : lj ≤ 4096 := rdL_le (f := fun y l => rdT ws nm lw y l) (fun y l t l' => rdT_le lw y l t l') _ _ _ _ hrd
        have hpsz : pw < wr.heap.size := hw.lt
        have x4 := hw.cell 4
        by_cases hlt : nj < lr
        · have hd1 : decide (nj < lr) = true := by simp; omega
          have hkl : nj < rs.length := by rw [HH.out.hlr]; exact hlt
          obtain ⟨y, hy⟩ : ∃ y, rs[nj]? = some y := ⟨_, List.getElem?_eq_getElem hkl⟩
          obtain ⟨b', o', rfl, hcy⟩ := HH.out.r.at_ (j := nj) (v := nv y) (by simp [hy])
          unfold nv at hcy
          have HCY : Hid (∀ V, Below W.heap.size W V → V.cell? ⟨b', o' + nj, none⟩ = some (.int .u64 (y : Int))) := fun V hV => (hV.cell (World.block_lt_of_cell? W _ hcy)).trans hcy
          have hy64 : y < 18446744073709551616 := HH.out.r64 y (List.mem_of_getElem? hy)
          have hq1 : (0 : Int) ≤ (nj : Int) := by omega
          have hq2 : (nj : Int) < (lr : Int) := by omega
          have htk : rs.take (nj + 1) = rs.take nj ++ [y] := by rw [List.take_add_one, hy]; rfl
          have hsp : rs = rs.take nj ++ y :: rs.drop (nj + 1) := by
            obtain ⟨h8, h7⟩ := List.getElem?_eq_some_iff.1 hy
            conv => lhs; rw [← List.take_append_drop nj rs, List.drop_eq_getElem_cons h8, h7]
          have HCALL := Lib.hid (HIH.out y lj wr.drew hy64 hlj hbl.drew (show Blk wr.drew pw _ _ from hw))
          have HRD := Lib.hid hrd
          have HRI := Lib.hid hri
          have HW := Lib.hid hw
          have HK := Lib.hid hk
          have HBL := Lib.hid hbl
          have HTK := Lib.hid htk
          have HSP := Lib.hid hsp
          clear hrd hri hw hk hbl hcy hy htk hsp hkl
          go_upto_region 8 with (fail)
          clear x4 w0 w2
          refine wp_region_W 13 (fun V => V.cell? ⟨g, 2, none⟩ = some (.slice (some ⟨b', o', none⟩) lr cr) ∧ V.cell? ⟨g, 0, none⟩ = some (.slice Aw lw cw) ∧ V.cell? ⟨b', o' + nj, none⟩ = some (.int .u64 (y : Int))) (by kernel_rfl) ?_ (fun hS0 => ?_)
          · exact ⟨HK.out.cell 2, HK.out.cell 0, HCY.out _ HBL.out.drew⟩
          (refine wpAnyW_take (i := 0) (v := ?_) rfl (by kernel_rfl) (by kernel_rfl) (by kernel_rfl) (by kernel_rfl) (fun _ _ _ h => h) (Or.inl ⟨by kernel_rfl, ?_⟩) (by assumption) ?_; rotate_left; focus (intro V9 hS9; go_simp; (try (with_reducible rfl)); done))
          try simp only [Act.put, List.getElem_toArray, List.getElem_cons_zero, List.setIfInBounds_toArray, List.set_cons_succ, List.set_cons_zero]
          (refine wpAnyW_take (i := 1) (v := ?_) rfl (by kernel_rfl) (by kernel_rfl) (by kernel_rfl) (by kernel_rfl) (fun _ _ _ h => h) (Or.inl ⟨by kernel_rfl, ?_⟩) (by assumption) ?_; rotate_left; focus (intro V9 hS9; go_simp; (try (with_reducible rfl)); done))
          try simp only [Act.put, List.getElem_toArray, List.getElem_cons_succ, List.getElem_cons_zero, List.setIfInBounds_toArray, List.set_cons_succ, List.set_cons_zero]
          (refine wpAnyW_take (i := 2) (v := ?_) rfl (by kernel_rfl) (by kernel_rfl) (by kernel_rfl) (by kernel_rfl) (fun _ _ _ h => h) (Or.inl ⟨by kernel_rfl, ?_⟩) (by assumption) ?_; rotate_left; focus (intro V9 hS9; go_simp; (try (with_reducible rfl)); done))
          try simp only [Act.put, List.getElem_toArray, List.getElem_cons_succ, List.getElem_cons_zero, List.setIfInBounds_toArray, List.set_cons_succ, List.set_cons_zero]
          (refine wpAnyW_take (i := 3) (v := ?_) rfl (by kernel_rfl) (by kernel_rfl) (by kernel_rfl) (by kernel_rfl) (fun _ _ _ h => h) (Or.inl ⟨by kernel_rfl, ?_⟩) (by assumption) ?_; rotate_left; focus (intro V9 hS9; obtain ⟨g9, g8, g7⟩ := hS9; go_simp; (try (with_reducible rfl)); done))
          try simp only [Act.put, List.getElem_toArray, List.getElem_cons_succ, List.getElem_cons_zero, List.setIfInBounds_toArray, List.set_cons_succ, List.set_cons_zero]
          (refine wpAnyW_take (i := 4) (v := ?_) rfl (by kernel_rfl) (by kernel_rfl) (by kernel_rfl) (by kernel_rfl) (fun _ _ _ h => h) (Or.inl ⟨by kernel_rfl, ?_⟩) (by assumption) ?_; rotate_left; focus (intro V9 hS9; go_simp; (try (with_reducible rfl)); done))
          try simp only [Act.put, List.getElem_toArray, List.getElem_cons_succ, List.getElem_cons_zero, List.setIfInBounds_toArray, List.set_cons_succ, List.set_cons_zero]
          (refine wpAnyW_take (i := 5) (v := ?_) rfl (by kernel_rfl) (by kernel_rfl) (by kernel_rfl) (by kernel_rfl) (fun _ _ _ h => h) (Or.inl ⟨by kernel_rfl, ?_⟩) (by assumption) ?_; rotate_left; focus (intro V9 hS9; go_simp; (try (with_reducible rfl)); done))
          try simp only [Act.put, List.getElem_toArray, List.getElem_cons_succ, List.getElem_cons_zero, List.setIfInBounds_toArray, List.set_cons_succ, List.set_cons_zero]
          (refine wpAnyW_take (i := 6) (v := ?_) rfl (by kernel_rfl) (by kernel_rfl) (by kernel_rfl) (by kernel_rfl) (fun _ _ _ h => h) (Or.inl ⟨by kernel_rfl, ?_⟩) (by assumption) ?_; rotate_left; focus (intro V9 hS9; obtain ⟨g9, g8, g7⟩ := hS9; go_simp; (try (with_reducible rfl)); done))
          try simp only [Act.put, List.getElem_toArray, List.getElem_cons_succ, List.getElem_cons_zero, List.setIfInBounds_toArray, List.set_cons_succ, List.set_cons_zero]
          (refine wpAnyW_take (i := 7) (v := ?_) rfl (by kernel_rfl) (by kernel_rfl) (by kernel_rfl) (by kernel_rfl) (fun _ _ _ h => h) (Or.inl ⟨by kernel_rfl, ?_⟩) (by assumption) ?_; rotate_left; focus (intro V9 hS9; go_simp; (try (with_reducible rfl)); done))
          try simp only [Act.put, List.getElem_toArray, List.getElem_cons_succ, List.getElem_cons_zero, List.setIfInBounds_toArray, List.set_cons_succ, List.set_cons_zero]
          (refine wpAnyW_take (i := 8) (v := ?_) rfl (by kernel_rfl) (by kernel_rfl) (by kernel_rfl) (by kernel_rfl) (fun _ _ _ h => h) (Or.inl ⟨by kernel_rfl, ?_⟩) (by assumption) ?_; rotate_left; focus (intro V9 hS9; obtain ⟨g9, g8, g7⟩ := hS9; go_simp; (try (with_reducible rfl)); done))
          try simp only [Act.put, List.getElem_toArray, List.getElem_cons_succ, List.getElem_cons_zero, List.setIfInBounds_toArray, List.set_cons_succ, List.set_cons_zero]
          (refine wpAnyW_take (i := 9) (v := ?_) rfl (by kernel_rfl) (by kernel_rfl) (by kernel_rfl) (by kernel_rfl) (fun _ _ _ h => h) (Or.inl ⟨by kernel_rfl, ?_⟩) (by assumption) ?_; rotate_left; focus (intro V9 hS9; go_simp; (try (with_reducible rfl)); done))
          try simp only [Act.put, List.getElem_toArray, List.getElem_cons_succ, List.getElem_cons_zero, List.setIfInBounds_toArray, List.set_cons_succ, List.set_cons_zero]
          refine wpAnyW_ready (rs := [10]) (by kernel_rfl) (by simp) ?_
          refine AllReadyW.cons rfl (fun K hK => ?_) AllReadyW.nil
          go_simp
          refine HCALL.out.mono ?_
          rintro r w6 ⟨hf6, k6, i6, s6, A6, n6, c6, rfl, her, hok⟩
          have hfA : Fr (fun k => k = pw) wr w6 := ⟨hf6.os, hf6.tape, hf6.output, hf6.size, hf6.block⟩
          have hbl6 : Below W.heap.size W w6 := HBL.out.trans (hfA.below HBL.out.size (fun k hk => by rw [hk]; have := HGP.out; have := HG.out; omega))
          have hk6 := hfA.blk HK.out (fun e => by have := HGP.out; omega)
          refine hK.out _ _ ⟨hk6.cell 2, hk6.cell 0, HCY.out w6 hbl6⟩ (fun _ => ?_)
          clear hK K
          try simp only [Act.put, List.getElem_toArray, List.getElem_cons_succ, List.getElem_cons_zero, List.setIfInBounds_toArray, List.set_cons_succ, List.set_cons_zero]
          refine wpAnyW_ready (rs := [11]) (by kernel_rfl) (by simp) ?_
          refine AllReadyW.cons rfl (fun K hK => ?_) AllReadyW.nil
          go_simp
          refine hK.out _ _ ⟨(hk6.alloc _).cell 2, (hk6.alloc _).cell 0, HCY.out _ (hbl6.trans ((below_alloc _ _).mono hbl6.size))⟩ (fun _ => ?_)
          clear hK K
          try simp only [Act.put, List.getElem_toArray, List.getElem_cons_succ, List.getElem_cons_zero, List.setIfInBounds_toArray, List.set_cons_succ, List.set_cons_zero]
          have hR6 := (HRI.out.step hfA (fun k hk => by rw [hk]; omega)).step (Fr.alloc (fun _ => False) w6 (.cells #[.int .i64 k6, .int .i64 i6, .string ⟨s6.toArray⟩, .slice A6 n6 c6] 37)) (fun _ h => h.elim)
          have hsz6 : pw + 1 ≤ w6.heap.size := Nat.le_trans hpsz hfA.size
          refine wpAnyW_ready (rs := [12]) (by kernel_rfl) (by simp) ?_
          refine AllReadyW.cons rfl (fun K hK => ?_) AllReadyW.nil
          refine step_appO termT (by kernel_rfl) (.tmp 40) (.tmp 51) rfl (pw + 1) nj cs (.slice Aj nj cj) hR6.own (some ⟨w6.heap.size, 0, none⟩) 1 1 [.int .i64 k6, .int .i64 i6, .string ⟨s6.toArray⟩, .slice A6 n6 c6] (by rfl) (by rfl) rfl (blk_cs (Blk.new w6 _ _)) (by intro u hu; simp only [List.mem_cons, List.mem_nil_iff, or_false] at hu; rcases hu with rfl | rfl | rfl | rfl <;> rfl) (by unfold maxLen; omega) (by omega) (Nat.le_trans hsz6 (below_alloc _ _).size) ?_
          intro v7 w7 ho7 hg7 hat7
          have hrow : ∀ q, (Value.slice Aj nj cj).ownBlock = some q → pw < q := fun q hq => (own_heap hR6.own hq).1
          have hblk : ∀ {q t' : Nat} {cc : Array Value}, Blk w6 q t' cc → q ≤ pw → Blk w7 q t' cc := fun {q t' cc} h9 hq => (h9.alloc (.cells #[.int .i64 k6, .int .i64 i6, .string ⟨s6.toArray⟩, .slice A6 n6 c6] 37)).grown hg7 (fun e => by have := hrow q e.symm; omega)
          have hbl7 : Below W.heap.size W w7 := (hbl6.trans ((below_alloc w6 (.cells #[.int .i64 k6, .int .i64 i6, .string ⟨s6.toArray⟩, .slice A6 n6 c6] 37)).mono hbl6.size)).grown hg7 (Nat.le_trans hbl6.size (below_alloc w6 _).size) (fun q hq => by have := hrow q hq; have := HGP.out; have := HG.out; omega)
          have hk7 := hblk hk6 (Nat.le_of_lt HGP.out)
          refine hK.out _ _ ⟨hk7.cell 2, hk7.cell 0, HCY.out w7 hbl7⟩ (fun _ => ?_)
          clear hK K
          try simp only [Act.put, List.getElem_toArray, List.getElem_cons_succ, List.getElem_cons_zero, List.setIfInBounds_toArray, List.set_cons_succ, List.set_cons_zero]
          obtain ⟨A7, c7, rfl⟩ := own_sl ho7
          refine wpAnyW_ready (rs := [13]) (by kernel_rfl) (by simp) ?_
          refine AllReadyW.consE rfl (by kernel_rfl) (fun K hK => ?_) AllReadyW.nil
          go_simp
          refine hK.out _ _ ?_
          clear hK K
          refine wpAnyW_done (by kernel_rfl) ?_ _
          cases hrr : rdT ws nm lw y lj with
          | error er =>
            obtain ⟨hne, l9, hb9⟩ := her er hrr
            have HE := Lib.hid (show readP ws nm rs = .error er from by
              rw [HE1.out]
              have h9 : rdL (fun y l => rdT ws nm lw y l) rs 4096 = .error er := by
                rw [HSP.out, rdL_append, HRD.out]
                simp only [rdL, hrr]
              rw [h9])
            have HEND := Lib.hid (And.intro hk7 (And.intro hbl7 (And.intro hne (And.intro HE.out (hblk hb9 (Nat.le_refl _))))))
            clear her hok hR6 ho7 hg7 hat7 hf6 hfA hbl6 hk6 hrow hblk hbl7 hk7 hb9 hrr hne HE hS0 hsz6
            go_wp2
            go_roundw
            case rel => exact ⟨nj + 1, A7, nj + 1, c7, by omega, by go_num, rfl, HEND.out.1, HEND.out.2.1, .inr ⟨er, l9, HEND.out.2.2.1, HEND.out.2.2.2.1, HEND.out.2.2.2.2⟩⟩
            case measure => simp [intOf]; omega
          | ok q2 =>
            obtain ⟨t9, l9⟩ := q2
            obtain ⟨hT9, hb9⟩ := hok t9 l9 hrr
            have hTA : TEx (fun k => k < pw + 1 ∨ (Value.slice Aj nj cj).ownBlock = some k) (w6.alloc (.cells #[.int .i64 k6, .int .i64 i6, .string ⟨s6.toArray⟩, .slice A6 n6 c6] 37)) (.agg #[.int .i64 k6, .int .i64 i6, .string ⟨s6.toArray⟩, .slice A6 n6 c6]) t9 := (TEx.weak hT9 (fun q hq h9 => by
              rcases h9 with h9 | h9
              · show q < wr.heap.size
                omega
              · show q < wr.heap.size
                exact (own_heap HRI.out.own h9).2.1)).below (below_alloc _ _)
            have hRI9 := hR6.add (Nat.le_trans hsz6 (below_alloc _ _).size) hTA ho7 hg7 hat7
            have HEND := Lib.hid (And.intro hk7 (And.intro hbl7 (And.intro (show rdL (fun y l => rdT ws nm lw y l) (rs.take (nj + 1)) 4096 = .ok (ts ++ [t9], l9) from by
              rw [HTK.out, rdL_append, HRD.out]
              simp only [rdL, hrr]) (And.intro hRI9 (hblk hb9 (Nat.le_refl _))))))
            clear her hok hR6 ho7 hg7 hat7 hf6 hfA hbl6 hk6 hrow hblk hbl7 hk7 hb9 hrr hTA hRI9 hT9 hS0 hsz6
            go_wp2
            go_roundw
            case rel => exact ⟨nj + 1, A7, nj + 1, c7, by omega, by go_num, rfl, HEND.out.1, HEND.out.2.1, .inl ⟨l9, _, _, rfl, HEND.out.2.2.1, HEND.out.2.2.2.1, HEND.out.2.2.2.2⟩⟩
            case measure => simp [intOf]; omega
        · obtain rfl : lr = nj := by omega
          have hd1 : decide (lr < lr) = false := by simp
          have htl : rs.take lr = rs := List.take_of_length_le (by rw [HH.out.hlr]; exact Nat.le_refl _)
          rw [htl] at hrd
          have HE := Lib.hid (show readP ws nm rs = .ok ts from by rw [HE1.out, hrd])
          have hlt9 : ts.length = lr := by rw [rdL_len hrd, HH.out.hlr]
          have HTL := Lib.hid hlt9
          have HRI := Lib.hid hri
          have HBL := Lib.hid hbl
          clear hrd hri hw hk hbl htl hlt9 HE1
          go_wp2
          refine bodyPost_ret (v := .tuple #[.slice Aj lr cj, .int .i64 0]) (by simp [results, Try.results18, go_sem]) rfl ?_
          rw [HE.out]
          refine ⟨HBL.out, (fun er h => by cases h), fun ts' h => ?_⟩
          cases h
          have h9 := (lex_own (X := fun k => k < pw + 1) HRI.out.own (fun _ h => h) (HRI.out.std.kept (kept_step (Fr.refl (fun _ => False) wr) (fun _ _ h => h.elim) (fun k _ hk => .inl hk)))).1
          exact ⟨Aj, cj, by rw [HTL.out], by rw [HTL.out]; exact h9.weak (fun q _ hq => by show q < pw + 1; have := HGP.out; have := HG.out; omega)⟩
      · have de : ((er : Int) == 0) = false := by simpa using hne
        have de2 : ((er : Int) != 0) = true := by simpa using hne
        have x4 := hw.cell 4
        have HNE := Lib.hid hne
        have HRE := Lib.hid hre
        have HBL := Lib.hid hbl
        clear hne hre hbl hw hk
        by_cases hlt : j < lr
        · have hd1 : decide (j < lr) = true := by simp; omega
          go_upto_region 10 with (fail)
          go_quiet (fail)
          go_wp2
          refine bodyPost_ret (v := .tuple #[.slice none 0 0, .int .i64 (er : Int)]) (by simp [results, Try.results18, go_sem]) rfl ?_
          rw [HRE.out]
          exact ⟨⟨HBL.out.os, HBL.out.tape, HBL.out.output, HBL.out.size, HBL.out.block⟩, (fun er' h => by (cases h; exact ⟨HNE.out, rfl⟩)), (fun ts h => by cases h)⟩
        · obtain rfl : lr = j := by omega
          have hd1 : decide (lr < lr) = false := by simp
          go_upto_region 10 with (fail)
          go_quiet (fail)
          go_wp2
          refine bodyPost_ret (v := .tuple #[.slice none 0 0, .int .i64 (er : Int)]) (by simp [results, Try.results18, go_sem]) rfl ?_
          rw [HRE.out]
          exact ⟨⟨HBL.out.os, HBL.out.tape, HBL.out.output, HBL.out.size, HBL.out.block⟩, (fun er' h => by (cases h; exact ⟨HNE.out, rfl⟩)), (fun ts h => by cases h)⟩
end
end Go.Proofs.Ytefnjplfemgibaa
