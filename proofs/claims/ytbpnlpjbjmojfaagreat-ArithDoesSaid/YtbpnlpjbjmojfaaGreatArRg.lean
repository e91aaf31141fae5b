/- Arith (layer 14), the document's answer: one: reverse. Written by argenrg.py. -/
import Derived.Test.YtbpnlpjbjmojfaaGreatArRf
import Derived.StillTailTactics
namespace Go.Proofs.YtbpnlpjbjmojfaaGreat
open Go.RowKit
set_option linter.unusedVariables false
section
variable {w W V V' : World} {u u1 u2 : Value} {t t1 t2 : TV}

set_option maxRecDepth 100000 in
set_option maxHeartbeats 1000000 in
theorem rone_reverse {X : Nat → Prop} (hX : ∀ k, X k → k < W.heap.size) (h1 : TEx X W u1 t1) (hp : t1.parts ≤ 1000000) : Calls Tryz.prog 23 #[.string ⟨#[114, 101, 118, 101, 114, 115, 101]⟩, u1] W (R2 X W ((elsT t1).elim (tZ, sArg) (fun l => (lstT l.reverse, [])))) := by
  obtain ⟨A1, n1, c1, rfl, hn1⟩ := h1.form
  have H1 := Lib.hid h1
  have HN1 := Lib.hid hn1
  have HX := Lib.hid hX
  clear h1 hn1 hX
  have HP := Lib.hid hp
  clear hp
  cases hE : elsT t1 with
  | none =>
    have HE : Hid (∀ V, Below W.heap.size W V → (∀ k, (fun k => X k ∨ k = W.heap.size + 1) k → k < V.heap.size) → Calls Tryz.prog 79 #[.agg #[.int .i64 t1.kind, .int .i64 t1.int, .string ⟨t1.name.toArray⟩, .slice A1 n1 c1]] V (EL (fun k => X k ∨ k = W.heap.size + 1) V none)) := fun V hb hx => hE ▸ relements_v (X := (fun k => X k ∨ k = W.heap.size + 1)) hx (H1.out.up hb (by omega)) HP.out
    show Calls _ _ _ _ (R2 X W (tZ, sArg))
    clear hE
    go_enter Tryz.func23, Tryz.ntmps23
    go_upto_region 1 with (fail)
    refine wp_world (fun V => Below W.heap.size W V ∧ Blk V (W.heap.size) 26 #[.int .i64 t1.kind, .int .i64 t1.int, .string ⟨t1.name.toArray⟩, .slice A1 n1 c1] ∧ Blk V (W.heap.size + 1) 26 #[.int .i64 0, .int .i64 0, .string ⟨#[]⟩, .slice none 0 0]) ⟨below_step (below_alloc _ _) (below_alloc _ _), ((Blk.newAt (by first | (with_reducible rfl) | simp)).alloc _), (Blk.newAt (by first | (with_reducible rfl) | simp))⟩ ?_
    rintro V ⟨hb, hq1, hz⟩
    have HB := Lib.hid hb
    have HKq1 := Lib.hid hq1
    have HKz := Lib.hid hz
    have q10 := HKq1.out.cell 0
    have q11 := HKq1.out.cell 1
    have q12 := HKq1.out.cell 2
    have q13 := HKq1.out.cell 3
    have q1f0 := HKq1.out.frozen 0
    have q1f1 := HKq1.out.frozen 1
    have q1f2 := HKq1.out.frozen 2
    have q1f3 := HKq1.out.frozen 3
    have z0 := HKz.out.cell 0
    have z1 := HKz.out.cell 1
    have z2 := HKz.out.cell 2
    have z3 := HKz.out.cell 3
    have zf0 := HKz.out.frozen 0
    have zf1 := HKz.out.frozen 1
    have zf2 := HKz.out.frozen 2
    have zf3 := HKz.out.frozen 3
    clear hb hq1 hz
    go_wp2_with (go_at_call 79; refine (HE.out V HB.out (by rintro k (hk | rfl); exact Nat.lt_of_lt_of_le (HX.out k hk) HB.out.size; exact HKz.out.lt)).mono ?_; rintro e V ⟨hb1, rfl⟩; have HKq1 := Lib.hid (HKq1.out.keep hb1); have HKz := Lib.hid (HKz.out.keep hb1); have HB := Lib.hid (below_step HB.out hb1); have q10 := HKq1.out.cell 0; have q11 := HKq1.out.cell 1; have q12 := HKq1.out.cell 2; have q13 := HKq1.out.cell 3; have q1f0 := HKq1.out.frozen 0; have q1f1 := HKq1.out.frozen 1; have q1f2 := HKq1.out.frozen 2; have q1f3 := HKq1.out.frozen 3; have z0 := HKz.out.cell 0; have z1 := HKz.out.cell 1; have z2 := HKz.out.cell 2; have z3 := HKz.out.cell 3; have zf0 := HKz.out.frozen 0; have zf1 := HKz.out.frozen 1; have zf2 := HKz.out.frozen 2; have zf3 := HKz.out.frozen 3; clear hb1)
    have hB2 := HKz.out.set4 (.int .i64 0) (.int .i64 0) (.string ⟨#[]⟩) (.slice none 0 0)
    have y0 := hB2.cell 0
    have y1 := hB2.cell 1
    have y2 := hB2.cell 2
    have y3 := hB2.cell 3
    refine bodyPost_ret (v := .tuple #[.agg #[.int .i64 0, .int .i64 0, .string ⟨#[]⟩, .slice none 0 0], .string ⟨(sArg).toArray⟩]) (by simp [results, Tryz.results23, go_sem, y0, y1, y2, y3, sArg]) rfl ?_
    obtain ⟨g1, g2⟩ := fin4 (X := X) (p := W.heap.size + 1) HB.out (by omega) (tex_z _ _)
    exact ⟨_, rfl, g1, g2⟩
  | some l =>
    have HE : Hid (∀ V, Below W.heap.size W V → (∀ k, (fun k => X k ∨ k = W.heap.size + 1) k → k < V.heap.size) → Calls Tryz.prog 79 #[.agg #[.int .i64 t1.kind, .int .i64 t1.int, .string ⟨t1.name.toArray⟩, .slice A1 n1 c1]] V (EL (fun k => X k ∨ k = W.heap.size + 1) V (some l))) := fun V hb hx => hE ▸ relements_v (X := (fun k => X k ∨ k = W.heap.size + 1)) hx (H1.out.up hb (by omega)) HP.out
    have HEP := Lib.hid hE
    clear hE
    show Calls _ _ _ _ (R2 X W (lstT l.reverse, []))
    go_enter Tryz.func23, Tryz.ntmps23
    go_upto_region 1 with (fail)
    refine wp_world (fun V => Below W.heap.size W V ∧ Blk V (W.heap.size) 26 #[.int .i64 t1.kind, .int .i64 t1.int, .string ⟨t1.name.toArray⟩, .slice A1 n1 c1] ∧ Blk V (W.heap.size + 1) 26 #[.int .i64 0, .int .i64 0, .string ⟨#[]⟩, .slice none 0 0]) ⟨below_step (below_alloc _ _) (below_alloc _ _), ((Blk.newAt (by first | (with_reducible rfl) | simp)).alloc _), (Blk.newAt (by first | (with_reducible rfl) | simp))⟩ ?_
    rintro V ⟨hb, hq1, hz⟩
    have HB := Lib.hid hb
    have HKq1 := Lib.hid hq1
    have HKz := Lib.hid hz
    have q10 := HKq1.out.cell 0
    have q11 := HKq1.out.cell 1
    have q12 := HKq1.out.cell 2
    have q13 := HKq1.out.cell 3
    have q1f0 := HKq1.out.frozen 0
    have q1f1 := HKq1.out.frozen 1
    have q1f2 := HKq1.out.frozen 2
    have q1f3 := HKq1.out.frozen 3
    have z0 := HKz.out.cell 0
    have z1 := HKz.out.cell 1
    have z2 := HKz.out.cell 2
    have z3 := HKz.out.cell 3
    have zf0 := HKz.out.frozen 0
    have zf1 := HKz.out.frozen 1
    have zf2 := HKz.out.frozen 2
    have zf3 := HKz.out.frozen 3
    clear hb hq1 hz
    go_upto_region 54 with (first | (go_at_call 79; have HXP := Lib.hid (show ∀ k, (fun k => X k ∨ k = W.heap.size + 1) k → k < V.heap.size from (by rintro k (hk | rfl); exact Nat.lt_of_lt_of_le (HX.out k hk) HB.out.size; exact HKz.out.lt)); refine (HE.out V HB.out HXP.out).mono ?_; rintro e V ⟨hb1, v, cs, rfl, ho, hs⟩; obtain ⟨A5, c5, rfl, hnc, hcm⟩ := own_slice ho; have HL := Lib.hid (lex_own ho HXP.out (std_weak hs (fun k hk => .inl hk))).1; have HKq1 := Lib.hid (HKq1.out.keep hb1); have HKz := Lib.hid (HKz.out.keep hb1); have HB := Lib.hid (below_step HB.out hb1); have q10 := HKq1.out.cell 0; have q11 := HKq1.out.cell 1; have q12 := HKq1.out.cell 2; have q13 := HKq1.out.cell 3; have q1f0 := HKq1.out.frozen 0; have q1f1 := HKq1.out.frozen 1; have q1f2 := HKq1.out.frozen 2; have q1f3 := HKq1.out.frozen 3; have z0 := HKz.out.cell 0; have z1 := HKz.out.cell 1; have z2 := HKz.out.cell 2; have z3 := HKz.out.cell 3; have zf0 := HKz.out.frozen 0; have zf1 := HKz.out.frozen 1; have zf2 := HKz.out.frozen 2; have zf3 := HKz.out.frozen 3; have HLN := Lib.hid (lex_own ho HXP.out (std_weak hs (fun k hk => .inl hk))).2; have HNC := Lib.hid hnc; have HCM := Lib.hid hcm; clear hb1 ho hs hnc hcm HXP) | (go_at_call 12; refine (tnil_v _).mono ?_; rintro e w1 ⟨rfl, hb1⟩; have HB1 := Lib.hid hb1; clear hb1))
    obtain ⟨Bo, hBo⟩ : ∃ g, w1.heap.size = g := ⟨_, rfl⟩
    rw [hBo]
    have hlt0 : V.heap.size ≤ Bo ∧ W.heap.size + 1 < V.heap.size := ⟨by rw [← hBo]; exact HB1.out.size, HKz.out.lt⟩
    have HLT := Lib.hid hlt0
    have hl9 : l.length ≤ 9223372036854775807 := Nat.le_trans HNC.out HCM.out
    have HL9 := Lib.hid hl9
    refine wp_world (fun V' => LI X V Bo (W.heap.size + 1) 0 tN V') (by
      rw [← hBo]
      exact ⟨⟨none, 0, 0, Blk.new _ _ _, tex_n _ _⟩, (HKz.out.keep HB1.out).alloc _, below_step HB1.out (below_alloc _ _), Nat.zero_le _⟩) ?_
    clear hBo hlt0 hl9
    rintro V0 hI
    have HI0 := Lib.hid hI
    clear hI
    go_upto_region 55 with (fail)
    go_loopw [11] (fun v wr => ∃ j : Nat, v = .int .i64 (j : Int) ∧ j ≤ l.length ∧ Hid (LI X V Bo (W.heap.size + 1) 0 (lstT (l.take j).reverse) wr)) (fun v _ => match v with | .int _ i => ((l.length : Int) - i).toNat | _ => 0)
    case atStart => exact ⟨0, rfl, Nat.zero_le _, HI0⟩
    case round =>
      obtain ⟨j, rfl, hj, HI⟩ := hrel
      by_cases h : j < l.length
      · have hnext : lstT (l.take (j + 1)).reverse = tC l[j] (lstT (l.take j).reverse) := by
          rw [List.take_succ_eq_append_getElem h, List.reverse_append]
          rfl
        have hd : decide ((j : Int) < (l.length : Int)) = true := by simp; omega
        obtain ⟨acc, hacc⟩ : ∃ a, lstT (l.take j).reverse = a := ⟨_, rfl⟩
        rw [hacc] at HI hnext
        have HNX := Lib.hid hnext
        obtain ⟨b, o, A', n', c', rfl, e0, e1, e2, e3, hin, hIT⟩ := HL.out.item h
        obtain ⟨⟨A1', n1', c1', hv, hT⟩, hr, hB, _⟩ := HI.out
        have HIT := Lib.hid hIT
        have HV := Lib.hid hv
        have HT := Lib.hid hT
        have HR := Lib.hid hr
        have HBB := Lib.hid hB
        have i0 := (hB.cell (World.block_lt_of_cell? V _ e0)).trans e0
        have i1 := (hB.cell (World.block_lt_of_cell? V _ e1)).trans e1
        have i2 := (hB.cell (World.block_lt_of_cell? V _ e2)).trans e2
        have i3 := (hB.cell (World.block_lt_of_cell? V _ e3)).trans e3
        have z0 := hv.cell 0
        have z1 := hv.cell 1
        have z2 := hv.cell 2
        have z3 := hv.cell 3
        have hq1 : (0 : Int) ≤ (j : Int) := by omega
        have hq2 : (j : Int) < (l.length : Int) := by omega
        have HH := Lib.hid h
        have hw : wrap64 ((j : Int) + 1) = (j : Int) + 1 := by have := HL9.out; unfold wrap64; omega
        have HW := Lib.hid hw
        generalize l[j] = x at *
        clear e0 e1 e2 e3 hin hIT hv hT hr hB hnext hacc hw h
        go_upto_region 57 with (fail)
        go_still_tail 5, (by kernel_rfl)
        refine wpList_world (fun V => Below wr.heap.size wr V) (Below.refl _ _).drew ?_
        intro V2 hb2
        have HC := Lib.hid (tcons_v (X := fun k => X k ∨ k = Bo ∨ k = W.heap.size + 1) (W := V2)
          (by rintro k (hk | rfl | rfl); exact Nat.lt_of_lt_of_le (Nat.lt_of_lt_of_le (HX.out k hk) (Nat.le_trans HB.out.size HBB.out.size)) hb2.size; exact Nat.lt_of_lt_of_le HV.out.lt hb2.size; exact Nat.lt_of_lt_of_le HR.out.lt hb2.size)
          (((HIT.out.weak (Y := fun k => X k ∨ k = Bo ∨ k = W.heap.size + 1) (by have := HLT.out; rintro k hk (h9 | rfl | rfl); exact .inl h9; omega; exact .inr rfl)).below HBB.out).below hb2) (HT.out.below hb2))
        have HB2 := Lib.hid hb2
        clear hb2
        go_wp2_with (go_at_call 80; refine HC.out.mono ?_; rintro e w5 ⟨v, rfl, hT5, hb5⟩; obtain ⟨A5', n5, c5', rfl, hn5⟩ := hT5.form; have HT5 := Lib.hid hT5; have HB5 := Lib.hid (below_step HB2.out hb5); have hv5 := HV.out.keep HB5.out; have HV5 := Lib.hid hv5; have y0 := hv5.cell 0; have y1 := hv5.cell 1; have y2 := hv5.cell 2; have y3 := hv5.cell 3; have f0 := hv5.frozen 0; have f1 := hv5.frozen 1; have f2 := hv5.frozen 2; have f3 := hv5.frozen 3; have hw := HW.out; clear hT5 hb5 hn5 hv5)
        go_roundw
        case rel =>
          have hset := HV5.out.set4 (.int .i64 (tC x acc).kind) (.int .i64 (tC x acc).int) (.string ⟨(tC x acc).name.toArray⟩) (.slice A5' n5 c5')
          have hf4 := fr_set4 w5 Bo (.int .i64 (tC x acc).kind) (.int .i64 (tC x acc).int) (.string ⟨(tC x acc).name.toArray⟩) (.slice A5' n5 c5')
          refine ⟨j + 1, by first | rfl | (have := HW.out; simp [this]), by have := HH.out; omega, ?_⟩
          rw [HNX.out]
          refine ⟨⟨A5', n5, c5', hset, HT5.out.step hf4 (fun k _ hk => .inr (.inl hk))⟩, ?_, ?_, Nat.zero_le _⟩
          · have hne : W.heap.size + 1 ≠ Bo := by have := HLT.out; omega
            exact ((((HR.out.keep HB5.out).far hne _).far hne _).far hne _).far hne _
          · have hbx := below_step HBB.out HB5.out
            exact hbx.trans (hf4.below hbx.size (fun k hk => by have := HLT.out; omega))
        case measure => have := HH.out; simp; omega
      · obtain rfl : j = l.length := by omega
        have hd : decide ((l.length : Int) < (l.length : Int)) = false := by simp
        rw [List.take_length] at HI
        obtain ⟨⟨A9, n9, c9, hv, hT⟩, hr, hB, _⟩ := HI.out
        have HT := Lib.hid (hT.weak (Y := fun k => X k ∨ k = W.heap.size + 1) (by rintro k _ (h9 | rfl); exact .inl h9; exact .inr (.inr rfl)))
        have HB := Lib.hid (below_step HB.out hB)
        have HKz := Lib.hid hr
        have q0 := hv.cell 0
        have q1 := hv.cell 1
        have q2 := hv.cell 2
        have q3 := hv.cell 3
        have z0 := hr.cell 0
        have z1 := hr.cell 1
        have z2 := hr.cell 2
        have z3 := hr.cell 3
        have zf0 := hr.frozen 0
        have zf1 := hr.frozen 1
        have zf2 := hr.frozen 2
        have zf3 := hr.frozen 3
        clear hv hT hr hB h HI
        go_wp2
    
        have hB2 := HKz.out.set4 (.int .i64 ((lstT l.reverse)).kind) (.int .i64 ((lstT l.reverse)).int) (.string ⟨((lstT l.reverse)).name.toArray⟩) (.slice A9 n9 c9)
        have y0 := hB2.cell 0
        have y1 := hB2.cell 1
        have y2 := hB2.cell 2
        have y3 := hB2.cell 3
        refine bodyPost_ret (v := .tuple #[.agg #[.int .i64 ((lstT l.reverse)).kind, .int .i64 ((lstT l.reverse)).int, .string ⟨((lstT l.reverse)).name.toArray⟩, .slice A9 n9 c9], .string ⟨(([] : List UInt8)).toArray⟩]) (by simp [results, Tryz.results23, go_sem, y0, y1, y2, y3]) rfl ?_
        obtain ⟨g1, g2⟩ := fin4 (X := X) HB.out (by omega) HT.out
        exact ⟨_, rfl, g1, g2⟩
end
end Go.Proofs.YtbpnlpjbjmojfaaGreat
