/- Heap (layer 9): the document's walker's term: cells; every term. Written by hqgenh.py. -/
import Derived.Test.YtefnjplfemgibaaHqG
namespace Go.Proofs.Ytefnjplfemgibaa
open Go.RowKit
set_option linter.unusedVariables false

section
variable {w0 W W' : World} {pw : Nat} {Aw Aa Ar : Option Addr} {lw cw la ca lr cr : Nat} {ws : List Nat} {nm : List (List UInt8)}
set_option maxRecDepth 100000 in
set_option maxHeartbeats 4000000 in
theorem qterm5 (ahead x l1 : Nat) (W : World) (hx : x < 18446744073709551616) (hxt : x % 8 = 5) (hleft : l1 + 1 ≤ 4096) (hold : Below w0.heap.size w0 W) (hB : Blk W pw 83 #[.slice Aw lw cw, .slice Aa la ca, .slice Ar lr cr, .int .i64 ((l1 + 1 : Nat) : Int), .int .i64 0]) (hpw : w0.heap.size ≤ pw) (hR : RdC w0 Aw (ws.map nv)) (hN : RdC w0 Aa (nm.map hv)) (hl : ws.length = lw) (hln : nm.length = la) (h64 : W64 ws) (hlw : lw ≤ 100000) (hla : la ≤ 100000) (ha : ahead ≤ lw) (hih : x / 8 < ahead → QIH w0 pw Aw lw cw Aa la ca Ar lr cr ws nm (x / 8)) :
    Calls Try.prog 37 #[.pointer (some ⟨pw, 0, none⟩), .int .u64 (x : Int), .int .i64 (ahead : Int)] W (QTE pw Aw lw cw Aa la ca Ar lr cr W (rdT ws nm ahead x (l1 + 1))) := by
  have HB := Lib.hid hB
  have HPW := Lib.hid hB.lt
  have HOLD := Lib.hid hold
  have HR := Lib.hid hR
  have HN := Lib.hid hN
  have HP0 := Lib.hid hpw
  have HH := Lib.hid (And.intro hl (And.intro hln h64))
  have HIH := Lib.hid hih
  have HTG := Lib.hid (show wrap64 (bits BinOp.and IntKind.u64 (x : Int) 7) = 5 from by rw [and7 x hx, hxt]; rfl)
  have HXN := Lib.hid (show (x : Int) / 8 = ((x / 8 : Nat) : Int) by omega)
  have hn61 : x / 8 < 2305843009213693952 := by omega
  have HE0 := Lib.hid (show rdT ws nm ahead x (l1 + 1) = if 5 < 5 then (match leafP nm (x / 8) 5 with | none => .error 90 | some t => .ok (t, l1)) else if h : x / 8 < ahead then (match cellP ws (x / 8) 5 with | none => .error 90 | some (k, i, items) => match rdL (fun y l => rdT ws nm (x / 8) y l) items l1 with | .error e => .error e | .ok (ts, l1) => .ok (.mk k i [] ts, l1)) else .error 90 from by rw [rdT, hxt]; rw [if_neg (by omega)]; rfl)
  clear hB hold hR hN hl hln h64 hpw hxt hih
  obtain ⟨g, hg⟩ : ∃ g, W.heap.size = g := ⟨_, rfl⟩
  have HG := Lib.hid hg
  have HGP : Hid (g ≠ pw) := by have := HPW.out; unfold Hid; omega
  go_enter Try.func37, Try.ntmps37
  go_upto_region 1 with (fail)
  refine wp_world (fun V => Below W.heap.size W V ∧ Blk V g 37 #[.int .i64 0, .int .i64 0, .string ⟨#[]⟩, .slice none 0 0]) ⟨below_alloc _ _, by rw [← HG.out]; exact Blk.new _ _ _⟩ ?_
  rintro V ⟨hb, hk⟩
  have HK := Lib.hid hk
  have HBL := Lib.hid hb
  have HB := Lib.hid (HB.out.keep hb)
  have x3 := HB.out.cell 3
  have xf3 := HB.out.frozen 3
  have x4 := HB.out.cell 4
  clear hb hk hg
  have hset : Hid (∀ l : Int, Blk (V.setCell ⟨pw, 3, none⟩ (.int .i64 l)) pw 83 #[.slice Aw lw cw, .slice Aa la ca, .slice Ar lr cr, .int .i64 l, .int .i64 0] ∧ Blk (V.setCell ⟨pw, 3, none⟩ (.int .i64 l)) g 37 #[.int .i64 0, .int .i64 0, .string ⟨#[]⟩, .slice none 0 0] ∧ Fr (fun k => k = pw) W (V.setCell ⟨pw, 3, none⟩ (.int .i64 l))) := fun l =>
    ⟨HB.out.set_ 3 (.int .i64 l), HK.out.far (p := ⟨pw, 3, none⟩) HGP.out _, (Fr.of_below HBL.out _).same (Fr.setCell (fun k => k = pw) V (p := ⟨pw, 3, none⟩) (fun _ => rfl) _)⟩
  go_upto_region 8 with (fail)
  rw [HTG.out, HXN.out]
  refine wp_world (fun V => Blk V pw 83 #[.slice Aw lw cw, .slice Aa la ca, .slice Ar lr cr, .int .i64 (l1 : Int), .int .i64 0] ∧ Blk V g 37 #[.int .i64 0, .int .i64 0, .string ⟨#[]⟩, .slice none 0 0] ∧ Fr (fun k => k = pw) W V) (hset.out (l1 : Int)) ?_
  clear hset x3 xf3 x4 HB HK HBL
  rintro V ⟨h1, h2, h3⟩
  have HB := Lib.hid h1
  have HK := Lib.hid h2
  have HF := Lib.hid h3
  have HOV : Hid (Below w0.heap.size w0 V) := HOLD.out.trans (h3.below HOLD.out.size (fun k hk => by rw [hk]; exact HP0.out))
  clear h1 h2 h3
  clear HTG HXN
  generalize hnn : x / 8 = n at *
  clear hnn hx
  have x0 := HB.out.cell 0
  by_cases hna : n < ahead
  rotate_left
  · have HE := Lib.hid (show rdT ws nm ahead x (l1 + 1) = .error 90 from by rw [HE0.out, if_neg (by decide)]; rw [dif_neg hna])
    clear HE0
    by_cases hnl : n < lw
    · have d1 : decide (lw ≤ n) = false := by simp; omega
      have d2 : decide (ahead ≤ n) = true := by simp; omega
      go_wp2_with (go_at_call 71; refine (qfail_v (e := 90) HB.out).mono ?_; rintro r V8 ⟨rfl, hw8, hf8⟩; have HB := Lib.hid hw8; have HK := Lib.hid (hf8.blk HK.out HGP.out); have HF := Lib.hid (HF.out.same hf8); clear hw8 hf8; have z0 := HK.out.cell 0; have z1 := HK.out.cell 1; have z2 := HK.out.cell 2; have z3 := HK.out.cell 3; have zf0 := HK.out.frozen 0; have zf1 := HK.out.frozen 1; have zf2 := HK.out.frozen 2; have zf3 := HK.out.frozen 3)
      have hB2 := HK.out.set4 (.int .i64 0) (.int .i64 0) (.string ⟨#[]⟩) (.slice none 0 0)
      have y0 := hB2.cell 0
      have y1 := hB2.cell 1
      have y2 := hB2.cell 2
      have y3 := hB2.cell 3
      have hfr := fr_set4 V8 g (.int .i64 0) (.int .i64 0) (.string ⟨#[]⟩) (.slice none 0 0)
      refine bodyPost_ret (v := .agg #[.int .i64 0, .int .i64 0, .string ⟨#[]⟩, .slice none 0 0]) (by simp [results, Try.results37, go_sem, y0, y1, y2, y3]) rfl ?_
      rw [HE.out]
      refine ⟨HF.out.trans hfr (fun k hk e => by have := HG.out; omega), 0, 0, [], none, 0, 0, rfl, fun er h => ?_, fun t l h => by cases h⟩
      cases h
      exact ⟨by decide, (l1 : Int), hfr.blk HB.out (fun e => HGP.out e.symm)⟩
    · have d1 : decide (lw ≤ n) = true := by simp; omega
      go_wp2_with (go_at_call 71; refine (qfail_v (e := 90) HB.out).mono ?_; rintro r V8 ⟨rfl, hw8, hf8⟩; have HB := Lib.hid hw8; have HK := Lib.hid (hf8.blk HK.out HGP.out); have HF := Lib.hid (HF.out.same hf8); clear hw8 hf8; have z0 := HK.out.cell 0; have z1 := HK.out.cell 1; have z2 := HK.out.cell 2; have z3 := HK.out.cell 3; have zf0 := HK.out.frozen 0; have zf1 := HK.out.frozen 1; have zf2 := HK.out.frozen 2; have zf3 := HK.out.frozen 3)
      have hB2 := HK.out.set4 (.int .i64 0) (.int .i64 0) (.string ⟨#[]⟩) (.slice none 0 0)
      have y0 := hB2.cell 0
      have y1 := hB2.cell 1
      have y2 := hB2.cell 2
      have y3 := hB2.cell 3
      have hfr := fr_set4 V8 g (.int .i64 0) (.int .i64 0) (.string ⟨#[]⟩) (.slice none 0 0)
      refine bodyPost_ret (v := .agg #[.int .i64 0, .int .i64 0, .string ⟨#[]⟩, .slice none 0 0]) (by simp [results, Try.results37, go_sem, y0, y1, y2, y3]) rfl ?_
      rw [HE.out]
      refine ⟨HF.out.trans hfr (fun k hk e => by have := HG.out; omega), 0, 0, [], none, 0, 0, rfl, fun er h => ?_, fun t l h => by cases h⟩
      cases h
      exact ⟨by decide, (l1 : Int), hfr.blk HB.out (fun e => HGP.out e.symm)⟩
  have hnl : n < lw := by omega
  have d1 : decide (lw ≤ n) = false := by simp; omega
  have d2 : decide (ahead ≤ n) = false := by simp; omega
  have hnw : n < ws.length := by rw [HH.out.1]; exact hnl
  by_cases c1 : lw < n + 2
  · have HE := Lib.hid (show rdT ws nm ahead x (l1 + 1) = .error 90 from by rw [HE0.out, if_neg (by decide)]; rw [dif_pos hna]; have h9 : cellP ws n 5 = none := (by unfold cellP; rw [if_pos rfl, if_pos (by rw [List.length_drop, HH.out.1]; omega)]); rw [h9])
    have d3 : decide ((lw : Int) - (n : Int) < 2) = true := by (simp <;> omega)
    clear HE0
    go_wp2_with (go_at_call 71; refine (qfail_v (e := 90) HB.out).mono ?_; rintro r V8 ⟨rfl, hw8, hf8⟩; have HB := Lib.hid hw8; have HK := Lib.hid (hf8.blk HK.out HGP.out); have HF := Lib.hid (HF.out.same hf8); clear hw8 hf8; have z0 := HK.out.cell 0; have z1 := HK.out.cell 1; have z2 := HK.out.cell 2; have z3 := HK.out.cell 3; have zf0 := HK.out.frozen 0; have zf1 := HK.out.frozen 1; have zf2 := HK.out.frozen 2; have zf3 := HK.out.frozen 3)
    have hB2 := HK.out.set4 (.int .i64 0) (.int .i64 0) (.string ⟨#[]⟩) (.slice none 0 0)
    have y0 := hB2.cell 0
    have y1 := hB2.cell 1
    have y2 := hB2.cell 2
    have y3 := hB2.cell 3
    have hfr := fr_set4 V8 g (.int .i64 0) (.int .i64 0) (.string ⟨#[]⟩) (.slice none 0 0)
    refine bodyPost_ret (v := .agg #[.int .i64 0, .int .i64 0, .string ⟨#[]⟩, .slice none 0 0]) (by simp [results, Try.results37, go_sem, y0, y1, y2, y3]) rfl ?_
    rw [HE.out]
    refine ⟨HF.out.trans hfr (fun k hk e => by have := HG.out; omega), 0, 0, [], none, 0, 0, rfl, fun er h => ?_, fun t l h => by cases h⟩
    cases h
    exact ⟨by decide, (l1 : Int), hfr.blk HB.out (fun e => HGP.out e.symm)⟩
  · have HE := Lib.hid (show rdT ws nm ahead x (l1 + 1) = (match rdL (fun y l => rdT ws nm n y l) ((ws.drop n).take 2) l1 with | .error e => .error e | .ok (ts, l1) => .ok (.mk 8 0 [] ts, l1)) from by rw [HE0.out, if_neg (by decide)]; rw [dif_pos hna]; have h9 : cellP ws n 5 = some (8, 0, (ws.drop n).take 2) := (by unfold cellP; rw [if_pos rfl, if_neg (by rw [List.length_drop, HH.out.1]; omega)]); rw [h9])
    have HIT := Lib.hid (qitems_v (W := V) (ws := ws) (nm := nm) (lw := lw) 8 0 (n) (2) n l1 _ rfl (by omega) (by omega) HOV.out (show Blk V pw _ _ from HB.out) HP0.out HR.out HH.out.1 HH.out.2.2 hlw (HIH.out hna) (rdT ws nm ahead x (l1 + 1)) HE.out)
    have d3 : decide ((lw : Int) - (n : Int) < 2) = false := by (simp <;> omega)
    clear HE0 HE HIH
    have hgV : g < V.heap.size := HK.out.lt
    go_wp2_with (go_at_call 75; refine HIT.out.mono ?_; rintro r V8 ⟨hf8, k6, i6, s6, A6, n6, c6, rfl, her, hok⟩; have HER := Lib.hid her; have HOKK := Lib.hid hok; have hf8' : Fr (fun k => k = pw) V V8 := ⟨hf8.os, hf8.tape, hf8.output, hf8.size, hf8.block⟩; have HK := Lib.hid (hf8'.blk HK.out HGP.out); have HF := Lib.hid (HF.out.same hf8'); clear her hok hf8 hf8'; have z0 := HK.out.cell 0; have z1 := HK.out.cell 1; have z2 := HK.out.cell 2; have z3 := HK.out.cell 3; have zf0 := HK.out.frozen 0; have zf1 := HK.out.frozen 1; have zf2 := HK.out.frozen 2; have zf3 := HK.out.frozen 3)
    have hB2 := HK.out.set4 (.int .i64 k6) (.int .i64 i6) (.string ⟨s6.toArray⟩) (.slice A6 n6 c6)
    have y0 := hB2.cell 0
    have y1 := hB2.cell 1
    have y2 := hB2.cell 2
    have y3 := hB2.cell 3
    have hfr := fr_set4 V8 g (.int .i64 k6) (.int .i64 i6) (.string ⟨s6.toArray⟩) (.slice A6 n6 c6)
    refine bodyPost_ret (v := .agg #[.int .i64 k6, .int .i64 i6, .string ⟨s6.toArray⟩, .slice A6 n6 c6]) (by simp [results, Try.results37, go_sem, y0, y1, y2, y3]) rfl ?_
    refine ⟨HF.out.trans hfr (fun k hk e => by have := HG.out; omega), k6, i6, s6, A6, n6, c6, rfl, fun er h => ?_, fun t' l' h => ?_⟩
    · obtain ⟨h1, l9, h2⟩ := HER.out er h
      exact ⟨h1, l9, hfr.blk h2 (fun e => HGP.out e.symm)⟩
    · obtain ⟨h1, h2⟩ := HOKK.out t' l' h
      exact ⟨(h1.step hfr (fun q _ hq => by show q < V.heap.size; have h9 : q = g := hq; omega)).weak (fun q _ hq => by show q < V.heap.size; have := HG.out; omega), hfr.blk h2 (fun e => HGP.out e.symm)⟩
set_option maxRecDepth 100000 in
set_option maxHeartbeats 4000000 in
theorem qterm6 (ahead x l1 : Nat) (W : World) (hx : x < 18446744073709551616) (hxt : x % 8 = 6) (hleft : l1 + 1 ≤ 4096) (hold : Below w0.heap.size w0 W) (hB : Blk W pw 83 #[.slice Aw lw cw, .slice Aa la ca, .slice Ar lr cr, .int .i64 ((l1 + 1 : Nat) : Int), .int .i64 0]) (hpw : w0.heap.size ≤ pw) (hR : RdC w0 Aw (ws.map nv)) (hN : RdC w0 Aa (nm.map hv)) (hl : ws.length = lw) (hln : nm.length = la) (h64 : W64 ws) (hlw : lw ≤ 100000) (hla : la ≤ 100000) (ha : ahead ≤ lw) (hih : x / 8 < ahead → QIH w0 pw Aw lw cw Aa la ca Ar lr cr ws nm (x / 8)) :
    Calls Try.prog 37 #[.pointer (some ⟨pw, 0, none⟩), .int .u64 (x : Int), .int .i64 (ahead : Int)] W (QTE pw Aw lw cw Aa la ca Ar lr cr W (rdT ws nm ahead x (l1 + 1))) := by
  have HB := Lib.hid hB
  have HPW := Lib.hid hB.lt
  have HOLD := Lib.hid hold
  have HR := Lib.hid hR
  have HN := Lib.hid hN
  have HP0 := Lib.hid hpw
  have HH := Lib.hid (And.intro hl (And.intro hln h64))
  have HIH := Lib.hid hih
  have HTG := Lib.hid (show wrap64 (bits BinOp.and IntKind.u64 (x : Int) 7) = 6 from by rw [and7 x hx, hxt]; rfl)
  have HXN := Lib.hid (show (x : Int) / 8 = ((x / 8 : Nat) : Int) by omega)
  have hn61 : x / 8 < 2305843009213693952 := by omega
  have HE0 := Lib.hid (show rdT ws nm ahead x (l1 + 1) = if 6 < 5 then (match leafP nm (x / 8) 6 with | none => .error 90 | some t => .ok (t, l1)) else if h : x / 8 < ahead then (match cellP ws (x / 8) 6 with | none => .error 90 | some (k, i, items) => match rdL (fun y l => rdT ws nm (x / 8) y l) items l1 with | .error e => .error e | .ok (ts, l1) => .ok (.mk k i [] ts, l1)) else .error 90 from by rw [rdT, hxt]; rw [if_neg (by omega)]; rfl)
  clear hB hold hR hN hl hln h64 hpw hxt hih
  obtain ⟨g, hg⟩ : ∃ g, W.heap.size = g := ⟨_, rfl⟩
  have HG := Lib.hid hg
  have HGP : Hid (g ≠ pw) := by have := HPW.out; unfold Hid; omega
  go_enter Try.func37, Try.ntmps37
  go_upto_region 1 with (fail)
  refine wp_world (fun V => Below W.heap.size W V ∧ Blk V g 37 #[.int .i64 0, .int .i64 0, .string ⟨#[]⟩, .slice none 0 0]) ⟨below_alloc _ _, by rw [← HG.out]; exact Blk.new _ _ _⟩ ?_
  rintro V ⟨hb, hk⟩
  have HK := Lib.hid hk
  have HBL := Lib.hid hb
  have HB := Lib.hid (HB.out.keep hb)
  have x3 := HB.out.cell 3
  have xf3 := HB.out.frozen 3
  have x4 := HB.out.cell 4
  clear hb hk hg
  have hset : Hid (∀ l : Int, Blk (V.setCell ⟨pw, 3, none⟩ (.int .i64 l)) pw 83 #[.slice Aw lw cw, .slice Aa la ca, .slice Ar lr cr, .int .i64 l, .int .i64 0] ∧ Blk (V.setCell ⟨pw, 3, none⟩ (.int .i64 l)) g 37 #[.int .i64 0, .int .i64 0, .string ⟨#[]⟩, .slice none 0 0] ∧ Fr (fun k => k = pw) W (V.setCell ⟨pw, 3, none⟩ (.int .i64 l))) := fun l =>
    ⟨HB.out.set_ 3 (.int .i64 l), HK.out.far (p := ⟨pw, 3, none⟩) HGP.out _, (Fr.of_below HBL.out _).same (Fr.setCell (fun k => k = pw) V (p := ⟨pw, 3, none⟩) (fun _ => rfl) _)⟩
  go_upto_region 8 with (fail)
  rw [HTG.out, HXN.out]
  refine wp_world (fun V => Blk V pw 83 #[.slice Aw lw cw, .slice Aa la ca, .slice Ar lr cr, .int .i64 (l1 : Int), .int .i64 0] ∧ Blk V g 37 #[.int .i64 0, .int .i64 0, .string ⟨#[]⟩, .slice none 0 0] ∧ Fr (fun k => k = pw) W V) (hset.out (l1 : Int)) ?_
  clear hset x3 xf3 x4 HB HK HBL
  rintro V ⟨h1, h2, h3⟩
  have HB := Lib.hid h1
  have HK := Lib.hid h2
  have HF := Lib.hid h3
  have HOV : Hid (Below w0.heap.size w0 V) := HOLD.out.trans (h3.below HOLD.out.size (fun k hk => by rw [hk]; exact HP0.out))
  clear h1 h2 h3
  clear HTG HXN
  generalize hnn : x / 8 = n at *
  clear hnn hx
  have x0 := HB.out.cell 0
  by_cases hna : n < ahead
  rotate_left
  · have HE := Lib.hid (show rdT ws nm ahead x (l1 + 1) = .error 90 from by rw [HE0.out, if_neg (by decide)]; rw [dif_neg hna])
    clear HE0
    by_cases hnl : n < lw
    · have d1 : decide (lw ≤ n) = false := by simp; omega
      have d2 : decide (ahead ≤ n) = true := by simp; omega
      go_wp2_with (go_at_call 71; refine (qfail_v (e := 90) HB.out).mono ?_; rintro r V8 ⟨rfl, hw8, hf8⟩; have HB := Lib.hid hw8; have HK := Lib.hid (hf8.blk HK.out HGP.out); have HF := Lib.hid (HF.out.same hf8); clear hw8 hf8; have z0 := HK.out.cell 0; have z1 := HK.out.cell 1; have z2 := HK.out.cell 2; have z3 := HK.out.cell 3; have zf0 := HK.out.frozen 0; have zf1 := HK.out.frozen 1; have zf2 := HK.out.frozen 2; have zf3 := HK.out.frozen 3)
      have hB2 := HK.out.set4 (.int .i64 0) (.int .i64 0) (.string ⟨#[]⟩) (.slice none 0 0)
      have y0 := hB2.cell 0
      have y1 := hB2.cell 1
      have y2 := hB2.cell 2
      have y3 := hB2.cell 3
      have hfr := fr_set4 V8 g (.int .i64 0) (.int .i64 0) (.string ⟨#[]⟩) (.slice none 0 0)
      refine bodyPost_ret (v := .agg #[.int .i64 0, .int .i64 0, .string ⟨#[]⟩, .slice none 0 0]) (by simp [results, Try.results37, go_sem, y0, y1, y2, y3]) rfl ?_
      rw [HE.out]
      refine ⟨HF.out.trans hfr (fun k hk e => by have := HG.out; omega), 0, 0, [], none, 0, 0, rfl, fun er h => ?_, fun t l h => by cases h⟩
      cases h
      exact ⟨by decide, (l1 : Int), hfr.blk HB.out (fun e => HGP.out e.symm)⟩
    · have d1 : decide (lw ≤ n) = true := by simp; omega
      go_wp2_with (go_at_call 71; refine (qfail_v (e := 90) HB.out).mono ?_; rintro r V8 ⟨rfl, hw8, hf8⟩; have HB := Lib.hid hw8; have HK := Lib.hid (hf8.blk HK.out HGP.out); have HF := Lib.hid (HF.out.same hf8); clear hw8 hf8; have z0 := HK.out.cell 0; have z1 := HK.out.cell 1; have z2 := HK.out.cell 2; have z3 := HK.out.cell 3; have zf0 := HK.out.frozen 0; have zf1 := HK.out.frozen 1; have zf2 := HK.out.frozen 2; have zf3 := HK.out.frozen 3)
      have hB2 := HK.out.set4 (.int .i64 0) (.int .i64 0) (.string ⟨#[]⟩) (.slice none 0 0)
      have y0 := hB2.cell 0
      have y1 := hB2.cell 1
      have y2 := hB2.cell 2
      have y3 := hB2.cell 3
      have hfr := fr_set4 V8 g (.int .i64 0) (.int .i64 0) (.string ⟨#[]⟩) (.slice none 0 0)
      refine bodyPost_ret (v := .agg #[.int .i64 0, .int .i64 0, .string ⟨#[]⟩, .slice none 0 0]) (by simp [results, Try.results37, go_sem, y0, y1, y2, y3]) rfl ?_
      rw [HE.out]
      refine ⟨HF.out.trans hfr (fun k hk e => by have := HG.out; omega), 0, 0, [], none, 0, 0, rfl, fun er h => ?_, fun t l h => by cases h⟩
      cases h
      exact ⟨by decide, (l1 : Int), hfr.blk HB.out (fun e => HGP.out e.symm)⟩
  have hnl : n < lw := by omega
  have d1 : decide (lw ≤ n) = false := by simp; omega
  have d2 : decide (ahead ≤ n) = false := by simp; omega
  have hnw : n < ws.length := by rw [HH.out.1]; exact hnl
  obtain ⟨bw, ow, hAw, c0⟩ := (HR.out.below HOV.out).at_ (j := n) (v := nv ws[n]) (by simp [hnw])
  unfold nv at c0
  have HD := Lib.hid (List.drop_eq_getElem_cons hnw)
  have hm64 : ws[n] < 18446744073709551616 := HH.out.2.2 _ (List.getElem_mem hnw)
  generalize ws[n] = m at *
  subst hAw
  have hq1 : (0 : Int) ≤ (n : Int) := by omega
  have hq2 : (n : Int) < (lw : Int) := by omega
  clear hnw
  by_cases c1 : lw < n + 1 + m
  · have HE := Lib.hid (show rdT ws nm ahead x (l1 + 1) = .error 90 from by rw [HE0.out, if_neg (by decide)]; rw [dif_pos hna]; have h9 : cellP ws n 6 = none := (by unfold cellP; rw [if_neg (by decide), if_pos rfl, HD.out]; simp only; rw [if_pos (by rw [List.length_drop, HH.out.1]; omega)]); rw [h9])
    have d3 : decide ((lw : Int) - (n : Int) - 1 < (m : Int)) = true := by (simp <;> omega)
    clear HE0
    go_wp2_with (go_at_call 71; refine (qfail_v (e := 90) HB.out).mono ?_; rintro r V8 ⟨rfl, hw8, hf8⟩; have HB := Lib.hid hw8; have HK := Lib.hid (hf8.blk HK.out HGP.out); have HF := Lib.hid (HF.out.same hf8); clear hw8 hf8; have z0 := HK.out.cell 0; have z1 := HK.out.cell 1; have z2 := HK.out.cell 2; have z3 := HK.out.cell 3; have zf0 := HK.out.frozen 0; have zf1 := HK.out.frozen 1; have zf2 := HK.out.frozen 2; have zf3 := HK.out.frozen 3)
    have hB2 := HK.out.set4 (.int .i64 0) (.int .i64 0) (.string ⟨#[]⟩) (.slice none 0 0)
    have y0 := hB2.cell 0
    have y1 := hB2.cell 1
    have y2 := hB2.cell 2
    have y3 := hB2.cell 3
    have hfr := fr_set4 V8 g (.int .i64 0) (.int .i64 0) (.string ⟨#[]⟩) (.slice none 0 0)
    refine bodyPost_ret (v := .agg #[.int .i64 0, .int .i64 0, .string ⟨#[]⟩, .slice none 0 0]) (by simp [results, Try.results37, go_sem, y0, y1, y2, y3]) rfl ?_
    rw [HE.out]
    refine ⟨HF.out.trans hfr (fun k hk e => by have := HG.out; omega), 0, 0, [], none, 0, 0, rfl, fun er h => ?_, fun t l h => by cases h⟩
    cases h
    exact ⟨by decide, (l1 : Int), hfr.blk HB.out (fun e => HGP.out e.symm)⟩
  · have HE := Lib.hid (show rdT ws nm ahead x (l1 + 1) = (match rdL (fun y l => rdT ws nm n y l) ((ws.drop (n + 1)).take m) l1 with | .error e => .error e | .ok (ts, l1) => .ok (.mk 6 0 [] ts, l1)) from by rw [HE0.out, if_neg (by decide)]; rw [dif_pos hna]; have h9 : cellP ws n 6 = some (6, 0, (ws.drop (n + 1)).take m) := (by unfold cellP; rw [if_neg (by decide), if_pos rfl, HD.out]; simp only; rw [if_neg (by rw [List.length_drop, HH.out.1]; omega)]); rw [h9])
    have HIT := Lib.hid (qitems_v (W := V) (ws := ws) (nm := nm) (lw := lw) 6 0 (n + 1) (m) n l1 _ rfl (by omega) (by omega) HOV.out (show Blk V pw _ _ from HB.out) HP0.out HR.out HH.out.1 HH.out.2.2 hlw (HIH.out hna) (rdT ws nm ahead x (l1 + 1)) HE.out)
    have d3 : decide ((lw : Int) - (n : Int) - 1 < (m : Int)) = false := by (simp <;> omega)
    clear HE0 HE HIH
    have hgV : g < V.heap.size := HK.out.lt
    go_wp2_with (go_at_call 75; refine HIT.out.mono ?_; rintro r V8 ⟨hf8, k6, i6, s6, A6, n6, c6, rfl, her, hok⟩; have HER := Lib.hid her; have HOKK := Lib.hid hok; have hf8' : Fr (fun k => k = pw) V V8 := ⟨hf8.os, hf8.tape, hf8.output, hf8.size, hf8.block⟩; have HK := Lib.hid (hf8'.blk HK.out HGP.out); have HF := Lib.hid (HF.out.same hf8'); clear her hok hf8 hf8'; have z0 := HK.out.cell 0; have z1 := HK.out.cell 1; have z2 := HK.out.cell 2; have z3 := HK.out.cell 3; have zf0 := HK.out.frozen 0; have zf1 := HK.out.frozen 1; have zf2 := HK.out.frozen 2; have zf3 := HK.out.frozen 3)
    have hB2 := HK.out.set4 (.int .i64 k6) (.int .i64 i6) (.string ⟨s6.toArray⟩) (.slice A6 n6 c6)
    have y0 := hB2.cell 0
    have y1 := hB2.cell 1
    have y2 := hB2.cell 2
    have y3 := hB2.cell 3
    have hfr := fr_set4 V8 g (.int .i64 k6) (.int .i64 i6) (.string ⟨s6.toArray⟩) (.slice A6 n6 c6)
    refine bodyPost_ret (v := .agg #[.int .i64 k6, .int .i64 i6, .string ⟨s6.toArray⟩, .slice A6 n6 c6]) (by simp [results, Try.results37, go_sem, y0, y1, y2, y3]) rfl ?_
    refine ⟨HF.out.trans hfr (fun k hk e => by have := HG.out; omega), k6, i6, s6, A6, n6, c6, rfl, fun er h => ?_, fun t' l' h => ?_⟩
    · obtain ⟨h1, l9, h2⟩ := HER.out er h
      exact ⟨h1, l9, hfr.blk h2 (fun e => HGP.out e.symm)⟩
    · obtain ⟨h1, h2⟩ := HOKK.out t' l' h
      exact ⟨(h1.step hfr (fun q _ hq => by show q < V.heap.size; have h9 : q = g := hq; omega)).weak (fun q _ hq => by show q < V.heap.size; have := HG.out; omega), hfr.blk h2 (fun e => HGP.out e.symm)⟩
set_option maxRecDepth 100000 in
set_option maxHeartbeats 4000000 in
theorem qterm7 (ahead x l1 : Nat) (W : World) (hx : x < 18446744073709551616) (hxt : x % 8 = 7) (hleft : l1 + 1 ≤ 4096) (hold : Below w0.heap.size w0 W) (hB : Blk W pw 83 #[.slice Aw lw cw, .slice Aa la ca, .slice Ar lr cr, .int .i64 ((l1 + 1 : Nat) : Int), .int .i64 0]) (hpw : w0.heap.size ≤ pw) (hR : RdC w0 Aw (ws.map nv)) (hN : RdC w0 Aa (nm.map hv)) (hl : ws.length = lw) (hln : nm.length = la) (h64 : W64 ws) (hlw : lw ≤ 100000) (hla : la ≤ 100000) (ha : ahead ≤ lw) (hih : x / 8 < ahead → QIH w0 pw Aw lw cw Aa la ca Ar lr cr ws nm (x / 8)) :
    Calls Try.prog 37 #[.pointer (some ⟨pw, 0, none⟩), .int .u64 (x : Int), .int .i64 (ahead : Int)] W (QTE pw Aw lw cw Aa la ca Ar lr cr W (rdT ws nm ahead x (l1 + 1))) := by
  have HB := Lib.hid hB
  have HPW := Lib.hid hB.lt
  have HOLD := Lib.hid hold
  have HR := Lib.hid hR
  have HN := Lib.hid hN
  have HP0 := Lib.hid hpw
  have HH := Lib.hid (And.intro hl (And.intro hln h64))
  have HIH := Lib.hid hih
  have HTG := Lib.hid (show wrap64 (bits BinOp.and IntKind.u64 (x : Int) 7) = 7 from by rw [and7 x hx, hxt]; rfl)
  have HXN := Lib.hid (show (x : Int) / 8 = ((x / 8 : Nat) : Int) by omega)
  have hn61 : x / 8 < 2305843009213693952 := by omega
  have HE0 := Lib.hid (show rdT ws nm ahead x (l1 + 1) = if 7 < 5 then (match leafP nm (x / 8) 7 with | none => .error 90 | some t => .ok (t, l1)) else if h : x / 8 < ahead then (match cellP ws (x / 8) 7 with | none => .error 90 | some (k, i, items) => match rdL (fun y l => rdT ws nm (x / 8) y l) items l1 with | .error e => .error e | .ok (ts, l1) => .ok (.mk k i [] ts, l1)) else .error 90 from by rw [rdT, hxt]; rw [if_neg (by omega)]; rfl)
  clear hB hold hR hN hl hln h64 hpw hxt hih
  obtain ⟨g, hg⟩ : ∃ g, W.heap.size = g := ⟨_, rfl⟩
  have HG := Lib.hid hg
  have HGP : Hid (g ≠ pw) := by have := HPW.out; unfold Hid; omega
  go_enter Try.func37, Try.ntmps37
  go_upto_region 1 with (fail)
  refine wp_world (fun V => Below W.heap.size W V ∧ Blk V g 37 #[.int .i64 0, .int .i64 0, .string ⟨#[]⟩, .slice none 0 0]) ⟨below_alloc _ _, by rw [← HG.out]; exact Blk.new _ _ _⟩ ?_
  rintro V ⟨hb, hk⟩
  have HK := Lib.hid hk
  have HBL := Lib.hid hb
  have HB := Lib.hid (HB.out.keep hb)
  have x3 := HB.out.cell 3
  have xf3 := HB.out.frozen 3
  have x4 := HB.out.cell 4
  clear hb hk hg
  have hset : Hid (∀ l : Int, Blk (V.setCell ⟨pw, 3, none⟩ (.int .i64 l)) pw 83 #[.slice Aw lw cw, .slice Aa la ca, .slice Ar lr cr, .int .i64 l, .int .i64 0] ∧ Blk (V.setCell ⟨pw, 3, none⟩ (.int .i64 l)) g 37 #[.int .i64 0, .int .i64 0, .string ⟨#[]⟩, .slice none 0 0] ∧ Fr (fun k => k = pw) W (V.setCell ⟨pw, 3, none⟩ (.int .i64 l))) := fun l =>
    ⟨HB.out.set_ 3 (.int .i64 l), HK.out.far (p := ⟨pw, 3, none⟩) HGP.out _, (Fr.of_below HBL.out _).same (Fr.setCell (fun k => k = pw) V (p := ⟨pw, 3, none⟩) (fun _ => rfl) _)⟩
  go_upto_region 8 with (fail)
  rw [HTG.out, HXN.out]
  refine wp_world (fun V => Blk V pw 83 #[.slice Aw lw cw, .slice Aa la ca, .slice Ar lr cr, .int .i64 (l1 : Int), .int .i64 0] ∧ Blk V g 37 #[.int .i64 0, .int .i64 0, .string ⟨#[]⟩, .slice none 0 0] ∧ Fr (fun k => k = pw) W V) (hset.out (l1 : Int)) ?_
  clear hset x3 xf3 x4 HB HK HBL
  rintro V ⟨h1, h2, h3⟩
  have HB := Lib.hid h1
  have HK := Lib.hid h2
  have HF := Lib.hid h3
  have HOV : Hid (Below w0.heap.size w0 V) := HOLD.out.trans (h3.below HOLD.out.size (fun k hk => by rw [hk]; exact HP0.out))
  clear h1 h2 h3
  clear HTG HXN
  generalize hnn : x / 8 = n at *
  clear hnn hx
  have x0 := HB.out.cell 0
  by_cases hna : n < ahead
  rotate_left
  · have HE := Lib.hid (show rdT ws nm ahead x (l1 + 1) = .error 90 from by rw [HE0.out, if_neg (by decide)]; rw [dif_neg hna])
    clear HE0
    by_cases hnl : n < lw
    · have d1 : decide (lw ≤ n) = false := by simp; omega
      have d2 : decide (ahead ≤ n) = true := by simp; omega
      go_wp2_with (go_at_call 71; refine (qfail_v (e := 90) HB.out).mono ?_; rintro r V8 ⟨rfl, hw8, hf8⟩; have HB := Lib.hid hw8; have HK := Lib.hid (hf8.blk HK.out HGP.out); have HF := Lib.hid (HF.out.same hf8); clear hw8 hf8; have z0 := HK.out.cell 0; have z1 := HK.out.cell 1; have z2 := HK.out.cell 2; have z3 := HK.out.cell 3; have zf0 := HK.out.frozen 0; have zf1 := HK.out.frozen 1; have zf2 := HK.out.frozen 2; have zf3 := HK.out.frozen 3)
      have hB2 := HK.out.set4 (.int .i64 0) (.int .i64 0) (.string ⟨#[]⟩) (.slice none 0 0)
      have y0 := hB2.cell 0
      have y1 := hB2.cell 1
      have y2 := hB2.cell 2
      have y3 := hB2.cell 3
      have hfr := fr_set4 V8 g (.int .i64 0) (.int .i64 0) (.string ⟨#[]⟩) (.slice none 0 0)
      refine bodyPost_ret (v := .agg #[.int .i64 0, .int .i64 0, .string ⟨#[]⟩, .slice none 0 0]) (by simp [results, Try.results37, go_sem, y0, y1, y2, y3]) rfl ?_
      rw [HE.out]
      refine ⟨HF.out.trans hfr (fun k hk e => by have := HG.out; omega), 0, 0, [], none, 0, 0, rfl, fun er h => ?_, fun t l h => by cases h⟩
      cases h
      exact ⟨by decide, (l1 : Int), hfr.blk HB.out (fun e => HGP.out e.symm)⟩
    · have d1 : decide (lw ≤ n) = true := by simp; omega
      go_wp2_with (go_at_call 71; refine (qfail_v (e := 90) HB.out).mono ?_; rintro r V8 ⟨rfl, hw8, hf8⟩; have HB := Lib.hid hw8; have HK := Lib.hid (hf8.blk HK.out HGP.out); have HF := Lib.hid (HF.out.same hf8); clear hw8 hf8; have z0 := HK.out.cell 0; have z1 := HK.out.cell 1; have z2 := HK.out.cell 2; have z3 := HK.out.cell 3; have zf0 := HK.out.frozen 0; have zf1 := HK.out.frozen 1; have zf2 := HK.out.frozen 2; have zf3 := HK.out.frozen 3)
      have hB2 := HK.out.set4 (.int .i64 0) (.int .i64 0) (.string ⟨#[]⟩) (.slice none 0 0)
      have y0 := hB2.cell 0
      have y1 := hB2.cell 1
      have y2 := hB2.cell 2
      have y3 := hB2.cell 3
      have hfr := fr_set4 V8 g (.int .i64 0) (.int .i64 0) (.string ⟨#[]⟩) (.slice none 0 0)
      refine bodyPost_ret (v := .agg #[.int .i64 0, .int .i64 0, .string ⟨#[]⟩, .slice none 0 0]) (by simp [results, Try.results37, go_sem, y0, y1, y2, y3]) rfl ?_
      rw [HE.out]
      refine ⟨HF.out.trans hfr (fun k hk e => by have := HG.out; omega), 0, 0, [], none, 0, 0, rfl, fun er h => ?_, fun t l h => by cases h⟩
      cases h
      exact ⟨by decide, (l1 : Int), hfr.blk HB.out (fun e => HGP.out e.symm)⟩
  have hnl : n < lw := by omega
  have d1 : decide (lw ≤ n) = false := by simp; omega
  have d2 : decide (ahead ≤ n) = false := by simp; omega
  have hnw : n < ws.length := by rw [HH.out.1]; exact hnl
  by_cases c0 : lw < n + 2
  · have HE := Lib.hid (show rdT ws nm ahead x (l1 + 1) = .error 90 from by rw [HE0.out, if_neg (by decide)]; rw [dif_pos hna]; have h9 : cellP ws n 7 = none := (by unfold cellP; rw [if_neg (by decide), if_neg (by decide), List.drop_eq_getElem_cons hnw, List.drop_eq_nil_of_le (by rw [HH.out.1]; omega)]); rw [h9])
    have d3 : decide ((lw : Int) - (n : Int) < 2) = true := by (simp <;> omega)
    clear HE0
    go_wp2_with (go_at_call 71; refine (qfail_v (e := 90) HB.out).mono ?_; rintro r V8 ⟨rfl, hw8, hf8⟩; have HB := Lib.hid hw8; have HK := Lib.hid (hf8.blk HK.out HGP.out); have HF := Lib.hid (HF.out.same hf8); clear hw8 hf8; have z0 := HK.out.cell 0; have z1 := HK.out.cell 1; have z2 := HK.out.cell 2; have z3 := HK.out.cell 3; have zf0 := HK.out.frozen 0; have zf1 := HK.out.frozen 1; have zf2 := HK.out.frozen 2; have zf3 := HK.out.frozen 3)
    have hB2 := HK.out.set4 (.int .i64 0) (.int .i64 0) (.string ⟨#[]⟩) (.slice none 0 0)
    have y0 := hB2.cell 0
    have y1 := hB2.cell 1
    have y2 := hB2.cell 2
    have y3 := hB2.cell 3
    have hfr := fr_set4 V8 g (.int .i64 0) (.int .i64 0) (.string ⟨#[]⟩) (.slice none 0 0)
    refine bodyPost_ret (v := .agg #[.int .i64 0, .int .i64 0, .string ⟨#[]⟩, .slice none 0 0]) (by simp [results, Try.results37, go_sem, y0, y1, y2, y3]) rfl ?_
    rw [HE.out]
    refine ⟨HF.out.trans hfr (fun k hk e => by have := HG.out; omega), 0, 0, [], none, 0, 0, rfl, fun er h => ?_, fun t l h => by cases h⟩
    cases h
    exact ⟨by decide, (l1 : Int), hfr.blk HB.out (fun e => HGP.out e.symm)⟩
  have d3 : decide ((lw : Int) - (n : Int) < 2) = false := by (simp <;> omega)
  have hnw2 : n + 1 < ws.length := by rw [HH.out.1]; omega
  obtain ⟨bw, ow, hAw, e0⟩ := (HR.out.below HOV.out).at_ (j := n) (v := nv ws[n]) (by simp [hnw])
  obtain ⟨bw2, ow2, hAw2, e1⟩ := (HR.out.below HOV.out).at_ (j := n + 1) (v := nv ws[n + 1]) (by simp [hnw2])
  unfold nv at e0 e1
  have HD := Lib.hid (show ws.drop n = ws[n] :: ws[n + 1] :: ws.drop (n + 2) by rw [List.drop_eq_getElem_cons hnw, List.drop_eq_getElem_cons hnw2])
  have hi64 : ws[n] < 18446744073709551616 := HH.out.2.2 _ (List.getElem_mem hnw)
  have hm64 : ws[n + 1] < 18446744073709551616 := HH.out.2.2 _ (List.getElem_mem hnw2)
  generalize ws[n] = i at *
  generalize ws[n + 1] = m at *
  subst hAw
  obtain ⟨rfl, rfl⟩ : bw = bw2 ∧ ow = ow2 := by simpa using hAw2
  clear hAw2 hnw hnw2
  have hq1 : (0 : Int) ≤ (n : Int) := by omega
  have hq2 : (n : Int) < (lw : Int) := by omega
  have hq3 : (0 : Int) ≤ (n : Int) + 1 := by omega
  have hq4 : (n : Int) + 1 < (lw : Int) := by omega
  have hq5 : ((n : Int) + 1).toNat = n + 1 := by omega
  have hq6 : IntKind.i64.wrap ((n : Int) + 1) = (n : Int) + 1 := by rw [IntKind.wrap_i64]; omega
  have hq7 : IntKind.i64.wrap ((n : Int) + 2) = (n : Int) + 2 := by rw [IntKind.wrap_i64]; omega
  by_cases c1 : i ≤ 576460752303423487
  rotate_left
  · have HE := Lib.hid (show rdT ws nm ahead x (l1 + 1) = .error 90 from by rw [HE0.out, if_neg (by decide)]; rw [dif_pos hna]; have h9 : cellP ws n 7 = none := (by unfold cellP; rw [if_neg (by decide), if_neg (by decide), HD.out]; simp only; rw [if_pos (by omega)]); rw [h9])
    have d4 : decide ((576460752303423487 : Int) < (i : Int)) = true := by (simp <;> omega)
    clear HE0
    go_wp2_with (go_at_call 71; refine (qfail_v (e := 90) HB.out).mono ?_; rintro r V8 ⟨rfl, hw8, hf8⟩; have HB := Lib.hid hw8; have HK := Lib.hid (hf8.blk HK.out HGP.out); have HF := Lib.hid (HF.out.same hf8); clear hw8 hf8; have z0 := HK.out.cell 0; have z1 := HK.out.cell 1; have z2 := HK.out.cell 2; have z3 := HK.out.cell 3; have zf0 := HK.out.frozen 0; have zf1 := HK.out.frozen 1; have zf2 := HK.out.frozen 2; have zf3 := HK.out.frozen 3)
    have hB2 := HK.out.set4 (.int .i64 0) (.int .i64 0) (.string ⟨#[]⟩) (.slice none 0 0)
    have y0 := hB2.cell 0
    have y1 := hB2.cell 1
    have y2 := hB2.cell 2
    have y3 := hB2.cell 3
    have hfr := fr_set4 V8 g (.int .i64 0) (.int .i64 0) (.string ⟨#[]⟩) (.slice none 0 0)
    refine bodyPost_ret (v := .agg #[.int .i64 0, .int .i64 0, .string ⟨#[]⟩, .slice none 0 0]) (by simp [results, Try.results37, go_sem, y0, y1, y2, y3]) rfl ?_
    rw [HE.out]
    refine ⟨HF.out.trans hfr (fun k hk e => by have := HG.out; omega), 0, 0, [], none, 0, 0, rfl, fun er h => ?_, fun t l h => by cases h⟩
    cases h
    exact ⟨by decide, (l1 : Int), hfr.blk HB.out (fun e => HGP.out e.symm)⟩
  have d4 : decide ((576460752303423487 : Int) < (i : Int)) = false := by (simp <;> omega)
  by_cases c2 : lw < n + 2 + m
  · have HE := Lib.hid (show rdT ws nm ahead x (l1 + 1) = .error 90 from by rw [HE0.out, if_neg (by decide)]; rw [dif_pos hna]; have h9 : cellP ws n 7 = none := (by unfold cellP; rw [if_neg (by decide), if_neg (by decide), HD.out]; simp only; rw [if_neg (by omega), if_pos (by rw [List.length_drop, HH.out.1]; omega)]); rw [h9])
    have d5 : decide ((lw : Int) - (n : Int) - 2 < (m : Int)) = true := by (simp <;> omega)
    clear HE0
    go_wp2_with (go_at_call 71; refine (qfail_v (e := 90) HB.out).mono ?_; rintro r V8 ⟨rfl, hw8, hf8⟩; have HB := Lib.hid hw8; have HK := Lib.hid (hf8.blk HK.out HGP.out); have HF := Lib.hid (HF.out.same hf8); clear hw8 hf8; have z0 := HK.out.cell 0; have z1 := HK.out.cell 1; have z2 := HK.out.cell 2; have z3 := HK.out.cell 3; have zf0 := HK.out.frozen 0; have zf1 := HK.out.frozen 1; have zf2 := HK.out.frozen 2; have zf3 := HK.out.frozen 3)
    have hB2 := HK.out.set4 (.int .i64 0) (.int .i64 0) (.string ⟨#[]⟩) (.slice none 0 0)
    have y0 := hB2.cell 0
    have y1 := hB2.cell 1
    have y2 := hB2.cell 2
    have y3 := hB2.cell 3
    have hfr := fr_set4 V8 g (.int .i64 0) (.int .i64 0) (.string ⟨#[]⟩) (.slice none 0 0)
    refine bodyPost_ret (v := .agg #[.int .i64 0, .int .i64 0, .string ⟨#[]⟩, .slice none 0 0]) (by simp [results, Try.results37, go_sem, y0, y1, y2, y3]) rfl ?_
    rw [HE.out]
    refine ⟨HF.out.trans hfr (fun k hk e => by have := HG.out; omega), 0, 0, [], none, 0, 0, rfl, fun er h => ?_, fun t l h => by cases h⟩
    cases h
    exact ⟨by decide, (l1 : Int), hfr.blk HB.out (fun e => HGP.out e.symm)⟩
  · have HE := Lib.hid (show rdT ws nm ahead x (l1 + 1) = (match rdL (fun y l => rdT ws nm n y l) ((ws.drop (n + 2)).take m) l1 with | .error e => .error e | .ok (ts, l1) => .ok (.mk 4 (i : Int) [] ts, l1)) from by rw [HE0.out, if_neg (by decide)]; rw [dif_pos hna]; have h9 : cellP ws n 7 = some (4, (i : Int), (ws.drop (n + 2)).take m) := (by unfold cellP; rw [if_neg (by decide), if_neg (by decide), HD.out]; simp only; rw [if_neg (by omega), if_neg (by rw [List.length_drop, HH.out.1]; omega)]); rw [h9])
    have d5 : decide ((lw : Int) - (n : Int) - 2 < (m : Int)) = false := by (simp <;> omega)
    have hgV0 : g < V.heap.size := HK.out.lt
    go_upto_region 46 with (fail)
    go_still_tail 16, (by kernel_rfl)
    refine wpList_world (fun V2 => Blk V2 pw 83 #[.slice (some ⟨bw, ow, none⟩) lw cw, .slice Aa la ca, .slice Ar lr cr, .int .i64 (l1 : Int), .int .i64 0] ∧ Blk V2 g 37 #[.int .i64 0, .int .i64 0, .string ⟨#[]⟩, .slice none 0 0] ∧ Fr (fun k => k = pw) W V2 ∧ Below w0.heap.size w0 V2) ⟨HB.out, HK.out, HF.out.drew, HOV.out.drew⟩ ?_
    clear HB HK HF HOV e0 e1 x0 hgV0
    rintro V ⟨h1, h2, h3, h4⟩
    have HB := Lib.hid h1
    have HK := Lib.hid h2
    have HF := Lib.hid h3
    have HOV := Lib.hid h4
    clear h1 h2 h3 h4
    have HIT := Lib.hid (qitems_v (W := V) (ws := ws) (nm := nm) (lw := lw) (Aw := some ⟨bw, ow, none⟩) 4 (i : Int) (n + 2) (m) n l1 _ rfl (by omega) (by omega) HOV.out (show Blk V pw _ _ from HB.out) HP0.out HR.out HH.out.1 HH.out.2.2 hlw (HIH.out hna) (rdT ws nm ahead x (l1 + 1)) HE.out)
    clear HE0 HE HIH
    have hgV : g < V.heap.size := HK.out.lt
    go_wp2_with (go_at_call 75; refine HIT.out.mono ?_; rintro r V8 ⟨hf8, k6, i6, s6, A6, n6, c6, rfl, her, hok⟩; have HER := Lib.hid her; have HOKK := Lib.hid hok; have hf8' : Fr (fun k => k = pw) V V8 := ⟨hf8.os, hf8.tape, hf8.output, hf8.size, hf8.block⟩; have HK := Lib.hid (hf8'.blk HK.out HGP.out); have HF := Lib.hid (HF.out.same hf8'); clear her hok hf8 hf8'; have z0 := HK.out.cell 0; have z1 := HK.out.cell 1; have z2 := HK.out.cell 2; have z3 := HK.out.cell 3; have zf0 := HK.out.frozen 0; have zf1 := HK.out.frozen 1; have zf2 := HK.out.frozen 2; have zf3 := HK.out.frozen 3)
    have hB2 := HK.out.set4 (.int .i64 k6) (.int .i64 i6) (.string ⟨s6.toArray⟩) (.slice A6 n6 c6)
    have y0 := hB2.cell 0
    have y1 := hB2.cell 1
    have y2 := hB2.cell 2
    have y3 := hB2.cell 3
    have hfr := fr_set4 V8 g (.int .i64 k6) (.int .i64 i6) (.string ⟨s6.toArray⟩) (.slice A6 n6 c6)
    refine bodyPost_ret (v := .agg #[.int .i64 k6, .int .i64 i6, .string ⟨s6.toArray⟩, .slice A6 n6 c6]) (by simp [results, Try.results37, go_sem, y0, y1, y2, y3]) rfl ?_
    refine ⟨HF.out.trans hfr (fun k hk e => by have := HG.out; omega), k6, i6, s6, A6, n6, c6, rfl, fun er h => ?_, fun t' l' h => ?_⟩
    · obtain ⟨h1, l9, h2⟩ := HER.out er h
      exact ⟨h1, l9, hfr.blk h2 (fun e => HGP.out e.symm)⟩
    · obtain ⟨h1, h2⟩ := HOKK.out t' l' h
      exact ⟨(h1.step hfr (fun q _ hq => by show q < V.heap.size; have h9 : q = g := hq; omega)).weak (fun q _ hq => by show q < V.heap.size; have := HG.out; omega), hfr.blk h2 (fun e => HGP.out e.symm)⟩
set_option maxRecDepth 100000 in
set_option maxHeartbeats 4000000 in
theorem qterm_none (ahead x : Nat) (W : World) (hB : Blk W pw 83 #[.slice Aw lw cw, .slice Aa la ca, .slice Ar lr cr, .int .i64 ((0 : Nat) : Int), .int .i64 0]) :
    Calls Try.prog 37 #[.pointer (some ⟨pw, 0, none⟩), .int .u64 (x : Int), .int .i64 (ahead : Int)] W (QTE pw Aw lw cw Aa la ca Ar lr cr W (rdT ws nm ahead x 0)) := by
  have HB := Lib.hid hB
  have HPW := Lib.hid hB.lt
  have HE := Lib.hid (show rdT ws nm ahead x 0 = .error 6 from by rw [rdT]; rw [if_pos rfl])
  clear hB
  obtain ⟨g, hg⟩ : ∃ g, W.heap.size = g := ⟨_, rfl⟩
  have HG := Lib.hid hg
  have HGP : Hid (g ≠ pw) := by have := HPW.out; unfold Hid; omega
  go_enter Try.func37, Try.ntmps37
  go_upto_region 1 with (fail)
  refine wp_world (fun V => Below W.heap.size W V ∧ Blk V g 37 #[.int .i64 0, .int .i64 0, .string ⟨#[]⟩, .slice none 0 0]) ⟨below_alloc _ _, by rw [← HG.out]; exact Blk.new _ _ _⟩ ?_
  rintro V ⟨hb, hk⟩
  have HK := Lib.hid hk
  have HBL := Lib.hid hb
  have HB := Lib.hid (HB.out.keep hb)
  have x3 := HB.out.cell 3
  have xf3 := HB.out.frozen 3
  have x4 := HB.out.cell 4
  clear hb hk hg
  have hset : Hid (∀ l : Int, Blk (V.setCell ⟨pw, 3, none⟩ (.int .i64 l)) pw 83 #[.slice Aw lw cw, .slice Aa la ca, .slice Ar lr cr, .int .i64 l, .int .i64 0] ∧ Blk (V.setCell ⟨pw, 3, none⟩ (.int .i64 l)) g 37 #[.int .i64 0, .int .i64 0, .string ⟨#[]⟩, .slice none 0 0] ∧ Fr (fun k => k = pw) W (V.setCell ⟨pw, 3, none⟩ (.int .i64 l))) := fun l =>
    ⟨HB.out.set_ 3 (.int .i64 l), HK.out.far (p := ⟨pw, 3, none⟩) HGP.out _, (Fr.of_below HBL.out _).same (Fr.setCell (fun k => k = pw) V (p := ⟨pw, 3, none⟩) (fun _ => rfl) _)⟩
  go_upto_region 4 with (fail)
  refine wp_world (fun V => Blk V pw 83 #[.slice Aw lw cw, .slice Aa la ca, .slice Ar lr cr, .int .i64 (-1 : Int), .int .i64 0] ∧ Blk V g 37 #[.int .i64 0, .int .i64 0, .string ⟨#[]⟩, .slice none 0 0] ∧ Fr (fun k => k = pw) W V) (hset.out (-1 : Int)) ?_
  clear hset x3 xf3 x4 HB HK HBL
  rintro V ⟨h1, h2, h3⟩
  have HB := Lib.hid h1
  have HK := Lib.hid h2
  have HF := Lib.hid h3
  have x3 := h1.cell 3
  clear h1 h2 h3
  go_wp2_with (go_at_call 71; refine (qfail_v (e := 6) HB.out).mono ?_; rintro r V8 ⟨rfl, hw8, hf8⟩; have HB := Lib.hid hw8; have HK := Lib.hid (hf8.blk HK.out HGP.out); have HF := Lib.hid (HF.out.same hf8); clear hw8 hf8; have z0 := HK.out.cell 0; have z1 := HK.out.cell 1; have z2 := HK.out.cell 2; have z3 := HK.out.cell 3; have zf0 := HK.out.frozen 0; have zf1 := HK.out.frozen 1; have zf2 := HK.out.frozen 2; have zf3 := HK.out.frozen 3)
  have hB2 := HK.out.set4 (.int .i64 0) (.int .i64 0) (.string ⟨#[]⟩) (.slice none 0 0)
  have y0 := hB2.cell 0
  have y1 := hB2.cell 1
  have y2 := hB2.cell 2
  have y3 := hB2.cell 3
  have hfr := fr_set4 V8 g (.int .i64 0) (.int .i64 0) (.string ⟨#[]⟩) (.slice none 0 0)
  refine bodyPost_ret (v := .agg #[.int .i64 0, .int .i64 0, .string ⟨#[]⟩, .slice none 0 0]) (by simp [results, Try.results37, go_sem, y0, y1, y2, y3]) rfl ?_
  rw [HE.out]
  refine ⟨HF.out.trans hfr (fun k hk e => by have := HG.out; omega), 0, 0, [], none, 0, 0, rfl, fun er h => ?_, fun t l h => by cases h⟩
  cases h
  exact ⟨by decide, (-1 : Int), hfr.blk HB.out (fun e => HGP.out e.symm)⟩
theorem qterm_any (hpw : w0.heap.size ≤ pw) (hR : RdC w0 Aw (ws.map nv)) (hN : RdC w0 Aa (nm.map hv)) (hl : ws.length = lw) (hln : nm.length = la) (h64 : W64 ws) (hlw : lw ≤ 100000) (hla : la ≤ 100000) (ahead : Nat) : ahead ≤ lw → QIH w0 pw Aw lw cw Aa la ca Ar lr cr ws nm ahead := by
  induction ahead using Nat.strongRecOn with
  | _ ahead ih =>
    intro ha y left V hy hleft hold hB
    have hih : y / 8 < ahead → QIH w0 pw Aw lw cw Aa la ca Ar lr cr ws nm (y / 8) := fun hlt => ih (y / 8) hlt (by omega)
    cases left with
    | zero => exact qterm_none ahead y V hB
    | succ l1 =>
      have ht : y % 8 < 8 := by omega
      match ht9 : y % 8, ht with
      | 0, _ => exact qterm0 ahead y l1 V hy ht9 hleft hold hB hpw hR hN hl hln h64 hlw hla ha
      | 1, _ => exact qterm1 ahead y l1 V hy ht9 hleft hold hB hpw hR hN hl hln h64 hlw hla ha
      | 2, _ => exact qterm2 ahead y l1 V hy ht9 hleft hold hB hpw hR hN hl hln h64 hlw hla ha
      | 3, _ => exact qterm3 ahead y l1 V hy ht9 hleft hold hB hpw hR hN hl hln h64 hlw hla ha
      | 4, _ => exact qterm4 ahead y l1 V hy ht9 hleft hold hB hpw hR hN hl hln h64 hlw hla ha
      | 5, _ => exact qterm5 ahead y l1 V hy ht9 hleft hold hB hpw hR hN hl hln h64 hlw hla ha hih
      | 6, _ => exact qterm6 ahead y l1 V hy ht9 hleft hold hB hpw hR hN hl hln h64 hlw hla ha hih
      | 7, _ => exact qterm7 ahead y l1 V hy ht9 hleft hold hB hpw hR hN hl hln h64 hlw hla ha hih
end
end Go.Proofs.Ytefnjplfemgibaa
