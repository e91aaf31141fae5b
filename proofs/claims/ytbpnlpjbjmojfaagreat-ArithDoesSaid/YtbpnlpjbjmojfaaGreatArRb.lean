/- Arith (layer 14), the document's answer: Elements. Written by argenra.py. -/
import Derived.Test.YtbpnlpjbjmojfaaGreatArRa
namespace Go.Proofs.YtbpnlpjbjmojfaaGreat
open Go.RowKit
set_option linter.unusedVariables false
section
variable {W V V' : World} {u u1 u2 : Value} {t t1 t2 : TV}
set_option maxRecDepth 100000 in
set_option maxHeartbeats 4000000 in
theorem relements_v {X : Nat → Prop} (hX : ∀ k, X k → k < W.heap.size) (h1 : TEx X W u1 t1) (hp : t1.parts ≤ 1000000) : Calls Tryz.prog 79 #[u1] W (EL X W (elsT t1)) := by
  obtain ⟨A1, n1, c1, rfl, hn1⟩ := h1.form
  have H1 := Lib.hid h1
  have HX := Lib.hid hX
  have HP := Lib.hid hp
  clear hX hp h1 hn1
  go_enter Tryz.func79, Tryz.ntmps79
  go_upto_region 2 with (fail)
  go_loopw [4] (fun v wr => ∃ tc A n c acc cs, Hid (EI X W wr v t1 tc A n c acc cs) ∧ Hid (tc.items.length = n)) (fun v wr => t1.parts - sLen v)
  case atStart => exact ⟨t1, A1, n1, c1, [], [], ⟨below_alloc _ _, World.ownsRow_nil _ _ _ _, std_nil _, Blk.new _ _ _, H1.out, by cases elsT t1 <;> simp, by simp⟩, by exact (by obtain ⟨_, _, _, h, h2⟩ := H1.out.form; simpa using (by injection h with h; simp at h; exact h2.trans h.2.1.symm))⟩
  case round =>
    obtain ⟨tc, A, n, c, acc, cs, HE, HN⟩ := hrel
    have q0 := HE.out.box.cell 0
    have q3 := HE.out.box.cell 3
    by_cases hk : tc.kind = 8
    · by_cases hl : n = 2
      · subst hl
        have hlen : tc.items.length = 2 := HN.out
        obtain ⟨ib, io, IA, im, ic, hA, e0, e1, e2, e3, hin, hIT⟩ := HE.out.cur.items.item (j := 0) (by omega)
        obtain ⟨ib', io', JA, jm, jc, hA', g0, g1, g2, g3, hjn, hJT⟩ := HE.out.cur.items.item (j := 1) (by omega)
        subst hA
        obtain ⟨rfl, rfl⟩ : ib = ib' ∧ io = io' := by simpa using hA'
        have hels : elsT t1 = (elsT tc.items[1]).map ((acc ++ [tc.items[0]]) ++ ·) := by
          rw [HE.out.els, elsT_eq, if_pos ⟨hk, hlen⟩, show tc.items.getD 1 tZ = tc.items[1] by simp [List.getD, hlen], show tc.items.getD 0 tZ = tc.items[0] by simp [List.getD, hlen]]
          cases elsT tc.items[1] <;> simp
        have hcnt : (acc ++ [tc.items[0]]).length + tc.items[1].parts ≤ t1.parts := by
          have h1 := HE.out.cnt
          have h2 := tail_parts hlen
          rw [show tc.items.getD 1 tZ = tc.items[1] by simp [List.getD, hlen]] at h2
          simp; omega
        have hal : acc.length + 1 ≤ t1.parts := by have h1 := HE.out.cnt; have := tc.parts_pos; omega
        generalize hd0 : tc.items[0] = a at *
        generalize hd1 : tc.items[1] = d at *
        have HELS := Lib.hid hels
        have HCNT := Lib.hid hcnt
        have HAL := Lib.hid hal
        have HIT := Lib.hid hIT
        have HJT := Lib.hid hJT
        have HIN := Lib.hid hin
        have HJN := Lib.hid hjn
        have hlt : ib < W.heap.size := World.block_lt_of_cell? W _ e0
        have E0 := Lib.hid g0
        have E1 := Lib.hid g1
        have E2 := Lib.hid g2
        have E3 := Lib.hid g3
        have i0 : wr.cell? ⟨ib, io, none⟩ = some (.int .i64 a.kind) := (HE.out.bel.cell hlt).trans (by simpa using e0)
        have i1 : wr.cell? ⟨ib, io + 1, none⟩ = some (.int .i64 a.int) := (HE.out.bel.cell hlt).trans (by simpa using e1)
        have i2 : wr.cell? ⟨ib, io + 2, none⟩ = some (.string ⟨a.name.toArray⟩) := (HE.out.bel.cell hlt).trans (by simpa using e2)
        have i3 : wr.cell? ⟨ib, io + 3, none⟩ = some (.slice IA im ic) := (HE.out.bel.cell hlt).trans (by simpa using e3)
        have HLT := Lib.hid hlt
        have HE0 := Lib.hid (HE.out.keep (below_alloc wr (.cells #[.int .i64 a.kind, .int .i64 a.int, .string ⟨a.name.toArray⟩, .slice IA im ic] 26)))
        have HBN := Lib.hid (Blk.new wr 26 #[.int .i64 a.kind, .int .i64 a.int, .string ⟨a.name.toArray⟩, .slice IA im ic])
        have HSO : Hid (Std (ers (X2 X W) wr) [.int .i64 a.kind, .int .i64 a.int, .string ⟨a.name.toArray⟩, .slice IA im ic] [a]) := std_one (TVal.kept HIT.out (kept_x2_of HE.out.bel))
        clear e0 e1 e2 e3 g0 g1 g2 g3 hIT hJT hin hjn hels hcnt hal hA' hd0 hd1 hlen hlt
        obtain ⟨Av, cv, rfl, hlc, hcm⟩ := own_slice HE.out.own
        go_wp2_with (at_builtin; refine wpList_app termT rfl (.tmp 14) (.tmp 19) rfl (W.heap.size + 1) _ acc.length cs rfl HE0.out.own (some ⟨wr.heap.size, 0, none⟩) 1 1 [.int .i64 a.kind, .int .i64 a.int, .string ⟨a.name.toArray⟩, .slice IA im ic] rfl rfl (cs_blk HBN.out) HSO.out.2.1 (by have := HP.out; have := HAL.out; unfold maxLen; omega) (by have := HP.out; have := HAL.out; omega) (by have := HE.out.box.lt; simp; omega) ?_; intro v' w3 ho3 hg3 hat3; have HB3 := Lib.hid (HE0.out.bel.grown hg3 HE0.out.bel.size (fun k hk => by have := (HE0.out.own.lt k hk).1; omega)); have HBX := Lib.hid (HE0.out.box.grown hg3 (fun e => by have := (HE0.out.own.lt _ e.symm).1; omega)); have q3 := HBX.out.cell 3; have q0 := HBX.out.cell 0; have q1 := HBX.out.cell 1; have q2 := HBX.out.cell 2; have f0 := HBX.out.frozen 0; have f1 := HBX.out.frozen 1; have f2 := HBX.out.frozen 2; have f3 := HBX.out.frozen 3; have j0 : w3.cell? ⟨ib, io + 4, none⟩ = some (.int .i64 d.kind) := (HB3.out.cell HLT.out).trans (by simpa using E0.out); have j1 : w3.cell? ⟨ib, io + 4 + 1, none⟩ = some (.int .i64 d.int) := (HB3.out.cell HLT.out).trans (by simpa using E1.out); have j2 : w3.cell? ⟨ib, io + 4 + 2, none⟩ = some (.string ⟨d.name.toArray⟩) := (HB3.out.cell HLT.out).trans (by simpa using E2.out); have j3 : w3.cell? ⟨ib, io + 4 + 3, none⟩ = some (.slice JA jm jc) := (HB3.out.cell HLT.out).trans (by simpa using E3.out); have HO3 := Lib.hid ho3; clear ho3 hg3 hat3)
        go_roundw
        case rel =>
          have hset := HBX.out.set4 (.int .i64 d.kind) (.int .i64 d.int) (.string ⟨d.name.toArray⟩) (.slice JA jm jc)
          have hfr := fr_set4 w3 W.heap.size (.int .i64 d.kind) (.int .i64 d.int) (.string ⟨d.name.toArray⟩) (.slice JA jm jc)
          have hbf := HB3.out.trans (hfr.below HB3.out.size (fun k hk => by rw [hk]; exact Nat.le_refl _))
          refine ⟨d, JA, jm, jc, acc ++ [a], cs ++ [.int .i64 a.kind, .int .i64 a.int, .string ⟨a.name.toArray⟩, .slice IA im ic], ⟨hbf, ?_, ?_, hset, HJT.out, HELS.out, HCNT.out⟩, HJN.out⟩
          · rw [List.length_append]
            exact own_fr' HO3.out hfr (fun k hk e => by have := (HO3.out.lt k hk).1; omega)
          · exact Std.append (HE.out.std.kept (kept_x2 HE.out.bel hbf)) (HSO.out.kept (kept_x2 HE.out.bel hbf))
        case measure =>
          obtain ⟨Aw, cw, rfl, _, _⟩ := own_slice HO3.out
          have := HAL.out
          simp [sLen]
          omega
      · have hr : elsT t1 = none := by rw [HE.out.els, elsT_eq, if_neg (fun h => hl (HN.out.symm.trans h.2)), if_neg (by omega)]; simp
        have HR := Lib.hid hr
        clear hr
        obtain ⟨Av, cv, rfl, hlc, hcm⟩ := own_slice HE.out.own
        go_wp2_with (fail)
        exact bodyPost_ret (v := .tuple #[.slice none 0 0, .bool false]) (by simp [results, Tryz.results79, go_sem]) rfl (by rw [HR.out]; exact el_none HE.out.bel)
    · by_cases h7 : tc.kind = 7
      · have hr : elsT t1 = some acc := by rw [HE.out.els, elsT_eq, if_neg (fun h => hk h.1), if_pos h7]; simp
        have HR := Lib.hid hr
        have HK8 := Lib.hid hk
        clear hk hr
        obtain ⟨Av, cv, rfl, hlc, hcm⟩ := own_slice HE.out.own
        go_wp2_with (fail)
        exact bodyPost_ret (v := .tuple #[.slice Av acc.length cv, .bool true]) (by simp [results, Tryz.results79, go_sem]) rfl (by rw [HR.out]; exact el_some HE.out.bel (own_base' HE.out.own (Nat.le_succ _)) HE.out.std)
      · have hr : elsT t1 = none := by rw [HE.out.els, elsT_eq, if_neg (fun h => hk h.1), if_neg h7]; simp
        have HR := Lib.hid hr
        clear hr
        obtain ⟨Av, cv, rfl, hlc, hcm⟩ := own_slice HE.out.own
        go_wp2_with (fail)
        exact bodyPost_ret (v := .tuple #[.slice none 0 0, .bool false]) (by simp [results, Tryz.results79, go_sem]) rfl (by rw [HR.out]; exact el_none HE.out.bel)
end
end Go.Proofs.YtbpnlpjbjmojfaaGreat
