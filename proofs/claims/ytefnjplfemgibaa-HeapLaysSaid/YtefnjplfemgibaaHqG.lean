/- Heap (layer 9): the document's walker's term: what leads nowhere. Written by hqgeng.py. -/
import Derived.Test.YtefnjplfemgibaaHqF
namespace Go.Proofs.Ytefnjplfemgibaa
open Go.RowKit
set_option linter.unusedVariables false

section
variable {w0 W W' : World} {pw : Nat} {Aw Aa Ar : Option Addr} {lw cw la ca lr cr : Nat} {ws : List Nat} {nm : List (List UInt8)}
set_option maxHeartbeats 1000000 in
theorem tpid_v (n : Int) (W : World) : Calls Try.prog 73 #[.int .i64 n] W fun e w' => e = .returned (.agg #[.int .i64 5, .int .i64 n, .string ⟨#[]⟩, .slice none 0 0]) ∧ Below W.heap.size W w' := by
  go_enter Try.func73, Try.ntmps73
  go_wp2
  exact bodyPost_ret (v := .agg #[.int .i64 5, .int .i64 n, .string ⟨#[]⟩, .slice none 0 0]) (by simp [results, Try.results73, go_sem]) rfl ⟨rfl, below_alloc _ _⟩
set_option maxHeartbeats 1000000 in
theorem tref_v (n : Int) (W : World) : Calls Try.prog 74 #[.int .i64 n] W fun e w' => e = .returned (.agg #[.int .i64 3, .int .i64 n, .string ⟨#[]⟩, .slice none 0 0]) ∧ Below W.heap.size W w' := by
  go_enter Try.func74, Try.ntmps74
  go_wp2
  exact bodyPost_ret (v := .agg #[.int .i64 3, .int .i64 n, .string ⟨#[]⟩, .slice none 0 0]) (by simp [results, Try.results74, go_sem]) rfl ⟨rfl, below_alloc _ _⟩
set_option maxRecDepth 100000 in
set_option maxHeartbeats 4000000 in
theorem qterm0 (ahead x l1 : Nat) (W : World) (hx : x < 18446744073709551616) (hxt : x % 8 = 0) (hleft : l1 + 1 ≤ 4096) (hold : Below w0.heap.size w0 W) (hB : Blk W pw 83 #[.slice Aw lw cw, .slice Aa la ca, .slice Ar lr cr, .int .i64 ((l1 + 1 : Nat) : Int), .int .i64 0]) (hpw : w0.heap.size ≤ pw) (hR : RdC w0 Aw (ws.map nv)) (hN : RdC w0 Aa (nm.map hv)) (hl : ws.length = lw) (hln : nm.length = la) (h64 : W64 ws) (hlw : lw ≤ 100000) (hla : la ≤ 100000) (ha : ahead ≤ lw) :
    Calls Try.prog 37 #[.pointer (some ⟨pw, 0, none⟩), .int .u64 (x : Int), .int .i64 (ahead : Int)] W (QTE pw Aw lw cw Aa la ca Ar lr cr W (rdT ws nm ahead x (l1 + 1))) := by
  have HB := Lib.hid hB
  have HPW := Lib.hid hB.lt
  have HOLD := Lib.hid hold
  have HR := Lib.hid hR
  have HN := Lib.hid hN
  have HP0 := Lib.hid hpw
  have HH := Lib.hid (And.intro hl (And.intro hln h64))
  have HTG := Lib.hid (show wrap64 (bits BinOp.and IntKind.u64 (x : Int) 7) = 0 from by rw [and7 x hx, hxt]; rfl)
  have HXN := Lib.hid (show (x : Int) / 8 = ((x / 8 : Nat) : Int) by omega)
  have hn61 : x / 8 < 2305843009213693952 := by omega
  have HE0 := Lib.hid (show rdT ws nm ahead x (l1 + 1) = if 0 < 5 then (match leafP nm (x / 8) 0 with | none => .error 90 | some t => .ok (t, l1)) else if h : x / 8 < ahead then (match cellP ws (x / 8) 0 with | none => .error 90 | some (k, i, items) => match rdL (fun y l => rdT ws nm (x / 8) y l) items l1 with | .error e => .error e | .ok (ts, l1) => .ok (.mk k i [] ts, l1)) else .error 90 from by rw [rdT, hxt]; rw [if_neg (by omega)]; rfl)
  clear hB hold hR hN hl hln h64 hpw hxt
  obtain ⟨g, hg⟩ : ∃ g, W.heap.size = g := ⟨_, rfl⟩
  have HG := Lib.hid hg
  have HGP : Hid (g ≠ pw) := by have := HPW.out; unfold Hid; omega
  go_enter Try.func37, Try.ntmps37
  go_upto_region 1 with (fail)
  refine wp_world (fun V => Below W.heap.size W V ∧ Blk V g 37 #[.int .i64 0, .int .i64 0, .string ⟨#[]⟩, .slice none 0 0]) ⟨below_alloc _ _, by rw [← HG.out]; exact Blk.new _ _ _⟩ ?_
  rintro V ⟨hb, hk⟩
  have HK := Lib.hid hk
  have HBL := Lib.hid hb
  have HB := Lib.hid (HB.out.keep hb)
  have x3 := HB.out.cell 3
  have xf3 := HB.out.frozen 3
  have x4 := HB.out.cell 4
  clear hb hk hg
  have hset : Hid (∀ l : Int, Blk (V.setCell ⟨pw, 3, none⟩ (.int .i64 l)) pw 83 #[.slice Aw lw cw, .slice Aa la ca, .slice Ar lr cr, .int .i64 l, .int .i64 0] ∧ Blk (V.setCell ⟨pw, 3, none⟩ (.int .i64 l)) g 37 #[.int .i64 0, .int .i64 0, .string ⟨#[]⟩, .slice none 0 0] ∧ Fr (fun k => k = pw) W (V.setCell ⟨pw, 3, none⟩ (.int .i64 l))) := fun l =>
    ⟨HB.out.set_ 3 (.int .i64 l), HK.out.far (p := ⟨pw, 3, none⟩) HGP.out _, (Fr.of_below HBL.out _).same (Fr.setCell (fun k => k = pw) V (p := ⟨pw, 3, none⟩) (fun _ => rfl) _)⟩
  go_upto_region 8 with (fail)
  rw [HTG.out, HXN.out]
  refine wp_world (fun V => Blk V pw 83 #[.slice Aw lw cw, .slice Aa la ca, .slice Ar lr cr, .int .i64 (l1 : Int), .int .i64 0] ∧ Blk V g 37 #[.int .i64 0, .int .i64 0, .string ⟨#[]⟩, .slice none 0 0] ∧ Fr (fun k => k = pw) W V) (hset.out (l1 : Int)) ?_
  clear hset x3 xf3 x4 HB HK HBL
  rintro V ⟨h1, h2, h3⟩
  have HB := Lib.hid h1
  have HK := Lib.hid h2
  have HF := Lib.hid h3
  have HOV : Hid (Below w0.heap.size w0 V) := HOLD.out.trans (h3.below HOLD.out.size (fun k hk => by rw [hk]; exact HP0.out))
  clear h1 h2 h3
  clear HTG HXN
  generalize hnn : x / 8 = n at *
  clear hnn hx
  by_cases c1 : 1152921504606846976 ≤ n
  · by_cases c2 : 1729382256910270464 ≤ n
    · have HE := Lib.hid (show rdT ws nm ahead x (l1 + 1) = .ok (tI ((n : Int) - 2305843009213693952), l1) from by rw [HE0.out, if_pos (by decide)]; have h9 : leafP nm n 0 = some (tI ((n : Int) - 2305843009213693952)) := (by unfold leafP; rw [if_pos rfl, if_neg (by omega), if_pos (by omega)]); rw [h9])
      have d1 : decide ((1152921504606846976 : Int) ≤ (n : Int)) = true := by (simp <;> omega)
      have d2 : decide ((n : Int) - 2305843009213693952 < (-576460752303423488 : Int)) = false := by (simp <;> omega)
      have d3 : decide ((576460752303423487 : Int) < (n : Int) - 2305843009213693952) = false := by (simp <;> omega)
      clear HE0 c1 c2
      go_wp2_with (go_at_call 31; refine (tint_any ((n : Int) - 2305843009213693952) _).mono ?_; rintro r V8 ⟨rfl, hb8⟩; have HB := Lib.hid (HB.out.keep hb8); have HK := Lib.hid (HK.out.keep hb8); have HF := Lib.hid (HF.out.same (Fr.of_below hb8 _)); clear hb8; have z0 := HK.out.cell 0; have z1 := HK.out.cell 1; have z2 := HK.out.cell 2; have z3 := HK.out.cell 3; have zf0 := HK.out.frozen 0; have zf1 := HK.out.frozen 1; have zf2 := HK.out.frozen 2; have zf3 := HK.out.frozen 3)
      have hB2 := HK.out.set4 (.int .i64 1) (.int .i64 ((n : Int) - 2305843009213693952)) (.string ⟨#[]⟩) (.slice none 0 0)
      have y0 := hB2.cell 0
      have y1 := hB2.cell 1
      have y2 := hB2.cell 2
      have y3 := hB2.cell 3
      have hfr := fr_set4 V8 g (.int .i64 1) (.int .i64 ((n : Int) - 2305843009213693952)) (.string ⟨#[]⟩) (.slice none 0 0)
      refine bodyPost_ret (v := .agg #[.int .i64 1, .int .i64 ((n : Int) - 2305843009213693952), .string ⟨#[]⟩, .slice none 0 0]) (by simp [results, Try.results37, go_sem, y0, y1, y2, y3]) rfl ?_
      rw [HE.out]
      refine ⟨HF.out.trans hfr (fun k hk e => by have := HG.out; omega), 1, (n : Int) - 2305843009213693952, [], none, 0, 0, rfl, (fun er h => by cases h), fun t' l' h => ?_⟩
      simp only [Except.ok.injEq, Prod.mk.injEq] at h
      obtain ⟨rfl, rfl⟩ := h
      refine ⟨?_, hfr.blk HB.out (fun e => HGP.out e.symm)⟩
      exact ⟨none, 0, 0, rfl, rfl, rdM_nil _ _ _ (by omega)⟩
    · have HE := Lib.hid (show rdT ws nm ahead x (l1 + 1) = .error 90 from by rw [HE0.out, if_pos (by decide)]; have h9 : leafP nm n 0 = none := (by unfold leafP; rw [if_pos rfl, if_neg (by omega), if_neg (by omega)]); rw [h9])
      have d1 : decide ((1152921504606846976 : Int) ≤ (n : Int)) = true := by (simp <;> omega)
      have d2 : decide ((n : Int) - 2305843009213693952 < (-576460752303423488 : Int)) = true := by (simp <;> omega)
      clear HE0 c1 c2
      go_wp2_with (go_at_call 71; refine (qfail_v (e := 90) HB.out).mono ?_; rintro r V8 ⟨rfl, hw8, hf8⟩; have HB := Lib.hid hw8; have HK := Lib.hid (hf8.blk HK.out HGP.out); have HF := Lib.hid (HF.out.same hf8); clear hw8 hf8; have z0 := HK.out.cell 0; have z1 := HK.out.cell 1; have z2 := HK.out.cell 2; have z3 := HK.out.cell 3; have zf0 := HK.out.frozen 0; have zf1 := HK.out.frozen 1; have zf2 := HK.out.frozen 2; have zf3 := HK.out.frozen 3)
      have hB2 := HK.out.set4 (.int .i64 0) (.int .i64 0) (.string ⟨#[]⟩) (.slice none 0 0)
      have y0 := hB2.cell 0
      have y1 := hB2.cell 1
      have y2 := hB2.cell 2
      have y3 := hB2.cell 3
      have hfr := fr_set4 V8 g (.int .i64 0) (.int .i64 0) (.string ⟨#[]⟩) (.slice none 0 0)
      refine bodyPost_ret (v := .agg #[.int .i64 0, .int .i64 0, .string ⟨#[]⟩, .slice none 0 0]) (by simp [results, Try.results37, go_sem, y0, y1, y2, y3]) rfl ?_
      rw [HE.out]
      refine ⟨HF.out.trans hfr (fun k hk e => by have := HG.out; omega), 0, 0, [], none, 0, 0, rfl, fun er h => ?_, fun t l h => by cases h⟩
      cases h
      exact ⟨by decide, (l1 : Int), hfr.blk HB.out (fun e => HGP.out e.symm)⟩
  · by_cases c2 : n ≤ 576460752303423487
    · have HE := Lib.hid (show rdT ws nm ahead x (l1 + 1) = .ok (tI (n : Int), l1) from by rw [HE0.out, if_pos (by decide)]; have h9 : leafP nm n 0 = some (tI (n : Int)) := (by unfold leafP; rw [if_pos rfl, if_pos (by omega)]); rw [h9])
      have d1 : decide ((1152921504606846976 : Int) ≤ (n : Int)) = false := by (simp <;> omega)
      have d2 : decide ((n : Int) < (-576460752303423488 : Int)) = false := by (simp <;> omega)
      have d3 : decide ((576460752303423487 : Int) < (n : Int)) = false := by (simp <;> omega)
      clear HE0 c1 c2
      go_wp2_with (go_at_call 31; refine (tint_any (n : Int) _).mono ?_; rintro r V8 ⟨rfl, hb8⟩; have HB := Lib.hid (HB.out.keep hb8); have HK := Lib.hid (HK.out.keep hb8); have HF := Lib.hid (HF.out.same (Fr.of_below hb8 _)); clear hb8; have z0 := HK.out.cell 0; have z1 := HK.out.cell 1; have z2 := HK.out.cell 2; have z3 := HK.out.cell 3; have zf0 := HK.out.frozen 0; have zf1 := HK.out.frozen 1; have zf2 := HK.out.frozen 2; have zf3 := HK.out.frozen 3)
      have hB2 := HK.out.set4 (.int .i64 1) (.int .i64 ((n : Int))) (.string ⟨#[]⟩) (.slice none 0 0)
      have y0 := hB2.cell 0
      have y1 := hB2.cell 1
      have y2 := hB2.cell 2
      have y3 := hB2.cell 3
      have hfr := fr_set4 V8 g (.int .i64 1) (.int .i64 ((n : Int))) (.string ⟨#[]⟩) (.slice none 0 0)
      refine bodyPost_ret (v := .agg #[.int .i64 1, .int .i64 ((n : Int)), .string ⟨#[]⟩, .slice none 0 0]) (by simp [results, Try.results37, go_sem, y0, y1, y2, y3]) rfl ?_
      rw [HE.out]
      refine ⟨HF.out.trans hfr (fun k hk e => by have := HG.out; omega), 1, (n : Int), [], none, 0, 0, rfl, (fun er h => by cases h), fun t' l' h => ?_⟩
      simp only [Except.ok.injEq, Prod.mk.injEq] at h
      obtain ⟨rfl, rfl⟩ := h
      refine ⟨?_, hfr.blk HB.out (fun e => HGP.out e.symm)⟩
      exact ⟨none, 0, 0, rfl, rfl, rdM_nil _ _ _ (by omega)⟩
    · have HE := Lib.hid (show rdT ws nm ahead x (l1 + 1) = .error 90 from by rw [HE0.out, if_pos (by decide)]; have h9 : leafP nm n 0 = none := (by unfold leafP; rw [if_pos rfl, if_neg (by omega), if_neg (by omega)]); rw [h9])
      have d1 : decide ((1152921504606846976 : Int) ≤ (n : Int)) = false := by (simp <;> omega)
      have d2 : decide ((n : Int) < (-576460752303423488 : Int)) = false := by (simp <;> omega)
      have d3 : decide ((576460752303423487 : Int) < (n : Int)) = true := by (simp <;> omega)
      clear HE0 c1 c2
      go_wp2_with (go_at_call 71; refine (qfail_v (e := 90) HB.out).mono ?_; rintro r V8 ⟨rfl, hw8, hf8⟩; have HB := Lib.hid hw8; have HK := Lib.hid (hf8.blk HK.out HGP.out); have HF := Lib.hid (HF.out.same hf8); clear hw8 hf8; have z0 := HK.out.cell 0; have z1 := HK.out.cell 1; have z2 := HK.out.cell 2; have z3 := HK.out.cell 3; have zf0 := HK.out.frozen 0; have zf1 := HK.out.frozen 1; have zf2 := HK.out.frozen 2; have zf3 := HK.out.frozen 3)
      have hB2 := HK.out.set4 (.int .i64 0) (.int .i64 0) (.string ⟨#[]⟩) (.slice none 0 0)
      have y0 := hB2.cell 0
      have y1 := hB2.cell 1
      have y2 := hB2.cell 2
      have y3 := hB2.cell 3
      have hfr := fr_set4 V8 g (.int .i64 0) (.int .i64 0) (.string ⟨#[]⟩) (.slice none 0 0)
      refine bodyPost_ret (v := .agg #[.int .i64 0, .int .i64 0, .string ⟨#[]⟩, .slice none 0 0]) (by simp [results, Try.results37, go_sem, y0, y1, y2, y3]) rfl ?_
      rw [HE.out]
      refine ⟨HF.out.trans hfr (fun k hk e => by have := HG.out; omega), 0, 0, [], none, 0, 0, rfl, fun er h => ?_, fun t l h => by cases h⟩
      cases h
      exact ⟨by decide, (l1 : Int), hfr.blk HB.out (fun e => HGP.out e.symm)⟩
set_option maxRecDepth 100000 in
set_option maxHeartbeats 4000000 in
theorem qterm1 (ahead x l1 : Nat) (W : World) (hx : x < 18446744073709551616) (hxt : x % 8 = 1) (hleft : l1 + 1 ≤ 4096) (hold : Below w0.heap.size w0 W) (hB : Blk W pw 83 #[.slice Aw lw cw, .slice Aa la ca, .slice Ar lr cr, .int .i64 ((l1 + 1 : Nat) : Int), .int .i64 0]) (hpw : w0.heap.size ≤ pw) (hR : RdC w0 Aw (ws.map nv)) (hN : RdC w0 Aa (nm.map hv)) (hl : ws.length = lw) (hln : nm.length = la) (h64 : W64 ws) (hlw : lw ≤ 100000) (hla : la ≤ 100000) (ha : ahead ≤ lw) :
    Calls Try.prog 37 #[.pointer (some ⟨pw, 0, none⟩), .int .u64 (x : Int), .int .i64 (ahead : Int)] W (QTE pw Aw lw cw Aa la ca Ar lr cr W (rdT ws nm ahead x (l1 + 1))) := by
  have HB := Lib.hid hB
  have HPW := Lib.hid hB.lt
  have HOLD := Lib.hid hold
  have HR := Lib.hid hR
  have HN := Lib.hid hN
  have HP0 := Lib.hid hpw
  have HH := Lib.hid (And.intro hl (And.intro hln h64))
  have HTG := Lib.hid (show wrap64 (bits BinOp.and IntKind.u64 (x : Int) 7) = 1 from by rw [and7 x hx, hxt]; rfl)
  have HXN := Lib.hid (show (x : Int) / 8 = ((x / 8 : Nat) : Int) by omega)
  have hn61 : x / 8 < 2305843009213693952 := by omega
  have HE0 := Lib.hid (show rdT ws nm ahead x (l1 + 1) = if 1 < 5 then (match leafP nm (x / 8) 1 with | none => .error 90 | some t => .ok (t, l1)) else if h : x / 8 < ahead then (match cellP ws (x / 8) 1 with | none => .error 90 | some (k, i, items) => match rdL (fun y l => rdT ws nm (x / 8) y l) items l1 with | .error e => .error e | .ok (ts, l1) => .ok (.mk k i [] ts, l1)) else .error 90 from by rw [rdT, hxt]; rw [if_neg (by omega)]; rfl)
  clear hB hold hR hN hl hln h64 hpw hxt
  obtain ⟨g, hg⟩ : ∃ g, W.heap.size = g := ⟨_, rfl⟩
  have HG := Lib.hid hg
  have HGP : Hid (g ≠ pw) := by have := HPW.out; unfold Hid; omega
  go_enter Try.func37, Try.ntmps37
  go_upto_region 1 with (fail)
  refine wp_world (fun V => Below W.heap.size W V ∧ Blk V g 37 #[.int .i64 0, .int .i64 0, .string ⟨#[]⟩, .slice none 0 0]) ⟨below_alloc _ _, by rw [← HG.out]; exact Blk.new _ _ _⟩ ?_
  rintro V ⟨hb, hk⟩
  have HK := Lib.hid hk
  have HBL := Lib.hid hb
  have HB := Lib.hid (HB.out.keep hb)
  have x3 := HB.out.cell 3
  have xf3 := HB.out.frozen 3
  have x4 := HB.out.cell 4
  clear hb hk hg
  have hset : Hid (∀ l : Int, Blk (V.setCell ⟨pw, 3, none⟩ (.int .i64 l)) pw 83 #[.slice Aw lw cw, .slice Aa la ca, .slice Ar lr cr, .int .i64 l, .int .i64 0] ∧ Blk (V.setCell ⟨pw, 3, none⟩ (.int .i64 l)) g 37 #[.int .i64 0, .int .i64 0, .string ⟨#[]⟩, .slice none 0 0] ∧ Fr (fun k => k = pw) W (V.setCell ⟨pw, 3, none⟩ (.int .i64 l))) := fun l =>
    ⟨HB.out.set_ 3 (.int .i64 l), HK.out.far (p := ⟨pw, 3, none⟩) HGP.out _, (Fr.of_below HBL.out _).same (Fr.setCell (fun k => k = pw) V (p := ⟨pw, 3, none⟩) (fun _ => rfl) _)⟩
  go_upto_region 8 with (fail)
  rw [HTG.out, HXN.out]
  refine wp_world (fun V => Blk V pw 83 #[.slice Aw lw cw, .slice Aa la ca, .slice Ar lr cr, .int .i64 (l1 : Int), .int .i64 0] ∧ Blk V g 37 #[.int .i64 0, .int .i64 0, .string ⟨#[]⟩, .slice none 0 0] ∧ Fr (fun k => k = pw) W V) (hset.out (l1 : Int)) ?_
  clear hset x3 xf3 x4 HB HK HBL
  rintro V ⟨h1, h2, h3⟩
  have HB := Lib.hid h1
  have HK := Lib.hid h2
  have HF := Lib.hid h3
  have HOV : Hid (Below w0.heap.size w0 V) := HOLD.out.trans (h3.below HOLD.out.size (fun k hk => by rw [hk]; exact HP0.out))
  clear h1 h2 h3
  clear HTG HXN
  generalize hnn : x / 8 = n at *
  clear hnn hx
  have x1 := HB.out.cell 1
  by_cases c1 : la ≤ n
  · have HE := Lib.hid (show rdT ws nm ahead x (l1 + 1) = .error 90 from by rw [HE0.out, if_pos (by decide)]; have h9 : leafP nm n 1 = none := (by unfold leafP; rw [if_neg (by decide), if_pos rfl, List.getElem?_eq_none (by rw [HH.out.2.1]; exact c1)]; first | done | rfl); rw [h9])
    clear HE0
    go_wp2_with (go_at_call 71; refine (qfail_v (e := 90) HB.out).mono ?_; rintro r V8 ⟨rfl, hw8, hf8⟩; have HB := Lib.hid hw8; have HK := Lib.hid (hf8.blk HK.out HGP.out); have HF := Lib.hid (HF.out.same hf8); clear hw8 hf8; have z0 := HK.out.cell 0; have z1 := HK.out.cell 1; have z2 := HK.out.cell 2; have z3 := HK.out.cell 3; have zf0 := HK.out.frozen 0; have zf1 := HK.out.frozen 1; have zf2 := HK.out.frozen 2; have zf3 := HK.out.frozen 3)
    have hB2 := HK.out.set4 (.int .i64 0) (.int .i64 0) (.string ⟨#[]⟩) (.slice none 0 0)
    have y0 := hB2.cell 0
    have y1 := hB2.cell 1
    have y2 := hB2.cell 2
    have y3 := hB2.cell 3
    have hfr := fr_set4 V8 g (.int .i64 0) (.int .i64 0) (.string ⟨#[]⟩) (.slice none 0 0)
    refine bodyPost_ret (v := .agg #[.int .i64 0, .int .i64 0, .string ⟨#[]⟩, .slice none 0 0]) (by simp [results, Try.results37, go_sem, y0, y1, y2, y3]) rfl ?_
    rw [HE.out]
    refine ⟨HF.out.trans hfr (fun k hk e => by have := HG.out; omega), 0, 0, [], none, 0, 0, rfl, fun er h => ?_, fun t l h => by cases h⟩
    cases h
    exact ⟨by decide, (l1 : Int), hfr.blk HB.out (fun e => HGP.out e.symm)⟩
  · have hnl : n < nm.length := by rw [HH.out.2.1]; omega
    obtain ⟨b1, o1, rfl, cc⟩ := (HN.out.below HOV.out).at_ (j := n) (v := hv nm[n]) (by simp [hnl])
    unfold hv at cc
    have hq1 : (0 : Int) ≤ (n : Int) := by omega
    have hq2 : (n : Int) < (la : Int) := by omega
    have HNM := Lib.hid (show nm[n]? = some nm[n] from List.getElem?_eq_getElem hnl)
    generalize nm[n] = s at *
    clear hnl
    by_cases c2 : s = []
    · have HE := Lib.hid (show rdT ws nm ahead x (l1 + 1) = .error 90 from by rw [HE0.out, if_pos (by decide)]; have h9 : leafP nm n 1 = none := (by unfold leafP; rw [if_neg (by decide), if_pos rfl, HNM.out]; simp [c2]); rw [h9])
      subst c2
      clear HE0
      go_wp2_with (go_at_call 71; refine (qfail_v (e := 90) HB.out).mono ?_; rintro r V8 ⟨rfl, hw8, hf8⟩; have HB := Lib.hid hw8; have HK := Lib.hid (hf8.blk HK.out HGP.out); have HF := Lib.hid (HF.out.same hf8); clear hw8 hf8; have z0 := HK.out.cell 0; have z1 := HK.out.cell 1; have z2 := HK.out.cell 2; have z3 := HK.out.cell 3; have zf0 := HK.out.frozen 0; have zf1 := HK.out.frozen 1; have zf2 := HK.out.frozen 2; have zf3 := HK.out.frozen 3)
      have hB2 := HK.out.set4 (.int .i64 0) (.int .i64 0) (.string ⟨#[]⟩) (.slice none 0 0)
      have y0 := hB2.cell 0
      have y1 := hB2.cell 1
      have y2 := hB2.cell 2
      have y3 := hB2.cell 3
      have hfr := fr_set4 V8 g (.int .i64 0) (.int .i64 0) (.string ⟨#[]⟩) (.slice none 0 0)
      refine bodyPost_ret (v := .agg #[.int .i64 0, .int .i64 0, .string ⟨#[]⟩, .slice none 0 0]) (by simp [results, Try.results37, go_sem, y0, y1, y2, y3]) rfl ?_
      rw [HE.out]
      refine ⟨HF.out.trans hfr (fun k hk e => by have := HG.out; omega), 0, 0, [], none, 0, 0, rfl, fun er h => ?_, fun t l h => by cases h⟩
      cases h
      exact ⟨by decide, (l1 : Int), hfr.blk HB.out (fun e => HGP.out e.symm)⟩
    · by_cases c3 : s.length ≤ 255
      · have HE := Lib.hid (show rdT ws nm ahead x (l1 + 1) = .ok (tA s, l1) from by rw [HE0.out, if_pos (by decide)]; have h9 : leafP nm n 1 = some (tA s) := (by unfold leafP; rw [if_neg (by decide), if_pos rfl, HNM.out]; simp [c2, c3]); rw [h9])
        have c4 : 1 ≤ s.length := by cases s with | nil => exact absurd rfl c2 | cons a r => simp
        clear HE0 c2
        go_wp2_with (go_at_call 72; refine (tatom_v s _).mono ?_; rintro r V8 ⟨rfl, hb8⟩; have HB := Lib.hid (HB.out.keep hb8); have HK := Lib.hid (HK.out.keep hb8); have HF := Lib.hid (HF.out.same (Fr.of_below hb8 _)); clear hb8; have z0 := HK.out.cell 0; have z1 := HK.out.cell 1; have z2 := HK.out.cell 2; have z3 := HK.out.cell 3; have zf0 := HK.out.frozen 0; have zf1 := HK.out.frozen 1; have zf2 := HK.out.frozen 2; have zf3 := HK.out.frozen 3)
        have hB2 := HK.out.set4 (.int .i64 2) (.int .i64 (0)) (.string ⟨(s).toArray⟩) (.slice none 0 0)
        have y0 := hB2.cell 0
        have y1 := hB2.cell 1
        have y2 := hB2.cell 2
        have y3 := hB2.cell 3
        have hfr := fr_set4 V8 g (.int .i64 2) (.int .i64 (0)) (.string ⟨(s).toArray⟩) (.slice none 0 0)
        refine bodyPost_ret (v := .agg #[.int .i64 2, .int .i64 (0), .string ⟨(s).toArray⟩, .slice none 0 0]) (by simp [results, Try.results37, go_sem, y0, y1, y2, y3]) rfl ?_
        rw [HE.out]
        refine ⟨HF.out.trans hfr (fun k hk e => by have := HG.out; omega), 2, 0, s, none, 0, 0, rfl, (fun er h => by cases h), fun t' l' h => ?_⟩
        simp only [Except.ok.injEq, Prod.mk.injEq] at h
        obtain ⟨rfl, rfl⟩ := h
        refine ⟨?_, hfr.blk HB.out (fun e => HGP.out e.symm)⟩
        exact ⟨none, 0, 0, rfl, rfl, rdM_nil _ _ _ (by omega)⟩
      · have HE := Lib.hid (show rdT ws nm ahead x (l1 + 1) = .error 90 from by rw [HE0.out, if_pos (by decide)]; have h9 : leafP nm n 1 = none := (by unfold leafP; rw [if_neg (by decide), if_pos rfl, HNM.out]; simp [c3]); rw [h9])
        have c4 : 1 ≤ s.length := by omega
        clear HE0 c2
        go_wp2_with (go_at_call 71; refine (qfail_v (e := 90) HB.out).mono ?_; rintro r V8 ⟨rfl, hw8, hf8⟩; have HB := Lib.hid hw8; have HK := Lib.hid (hf8.blk HK.out HGP.out); have HF := Lib.hid (HF.out.same hf8); clear hw8 hf8; have z0 := HK.out.cell 0; have z1 := HK.out.cell 1; have z2 := HK.out.cell 2; have z3 := HK.out.cell 3; have zf0 := HK.out.frozen 0; have zf1 := HK.out.frozen 1; have zf2 := HK.out.frozen 2; have zf3 := HK.out.frozen 3)
        have hB2 := HK.out.set4 (.int .i64 0) (.int .i64 0) (.string ⟨#[]⟩) (.slice none 0 0)
        have y0 := hB2.cell 0
        have y1 := hB2.cell 1
        have y2 := hB2.cell 2
        have y3 := hB2.cell 3
        have hfr := fr_set4 V8 g (.int .i64 0) (.int .i64 0) (.string ⟨#[]⟩) (.slice none 0 0)
        refine bodyPost_ret (v := .agg #[.int .i64 0, .int .i64 0, .string ⟨#[]⟩, .slice none 0 0]) (by simp [results, Try.results37, go_sem, y0, y1, y2, y3]) rfl ?_
        rw [HE.out]
        refine ⟨HF.out.trans hfr (fun k hk e => by have := HG.out; omega), 0, 0, [], none, 0, 0, rfl, fun er h => ?_, fun t l h => by cases h⟩
        cases h
        exact ⟨by decide, (l1 : Int), hfr.blk HB.out (fun e => HGP.out e.symm)⟩
set_option maxRecDepth 100000 in
set_option maxHeartbeats 4000000 in
theorem qterm2 (ahead x l1 : Nat) (W : World) (hx : x < 18446744073709551616) (hxt : x % 8 = 2) (hleft : l1 + 1 ≤ 4096) (hold : Below w0.heap.size w0 W) (hB : Blk W pw 83 #[.slice Aw lw cw, .slice Aa la ca, .slice Ar lr cr, .int .i64 ((l1 + 1 : Nat) : Int), .int .i64 0]) (hpw : w0.heap.size ≤ pw) (hR : RdC w0 Aw (ws.map nv)) (hN : RdC w0 Aa (nm.map hv)) (hl : ws.length = lw) (hln : nm.length = la) (h64 : W64 ws) (hlw : lw ≤ 100000) (hla : la ≤ 100000) (ha : ahead ≤ lw) :
    Calls Try.prog 37 #[.pointer (some ⟨pw, 0, none⟩), .int .u64 (x : Int), .int .i64 (ahead : Int)] W (QTE pw Aw lw cw Aa la ca Ar lr cr W (rdT ws nm ahead x (l1 + 1))) := by
  have HB := Lib.hid hB
  have HPW := Lib.hid hB.lt
  have HOLD := Lib.hid hold
  have HR := Lib.hid hR
  have HN := Lib.hid hN
  have HP0 := Lib.hid hpw
  have HH := Lib.hid (And.intro hl (And.intro hln h64))
  have HTG := Lib.hid (show wrap64 (bits BinOp.and IntKind.u64 (x : Int) 7) = 2 from by rw [and7 x hx, hxt]; rfl)
  have HXN := Lib.hid (show (x : Int) / 8 = ((x / 8 : Nat) : Int) by omega)
  have hn61 : x / 8 < 2305843009213693952 := by omega
  have HE0 := Lib.hid (show rdT ws nm ahead x (l1 + 1) = if 2 < 5 then (match leafP nm (x / 8) 2 with | none => .error 90 | some t => .ok (t, l1)) else if h : x / 8 < ahead then (match cellP ws (x / 8) 2 with | none => .error 90 | some (k, i, items) => match rdL (fun y l => rdT ws nm (x / 8) y l) items l1 with | .error e => .error e | .ok (ts, l1) => .ok (.mk k i [] ts, l1)) else .error 90 from by rw [rdT, hxt]; rw [if_neg (by omega)]; rfl)
  clear hB hold hR hN hl hln h64 hpw hxt
  obtain ⟨g, hg⟩ : ∃ g, W.heap.size = g := ⟨_, rfl⟩
  have HG := Lib.hid hg
  have HGP : Hid (g ≠ pw) := by have := HPW.out; unfold Hid; omega
  go_enter Try.func37, Try.ntmps37
  go_upto_region 1 with (fail)
  refine wp_world (fun V => Below W.heap.size W V ∧ Blk V g 37 #[.int .i64 0, .int .i64 0, .string ⟨#[]⟩, .slice none 0 0]) ⟨below_alloc _ _, by rw [← HG.out]; exact Blk.new _ _ _⟩ ?_
  rintro V ⟨hb, hk⟩
  have HK := Lib.hid hk
  have HBL := Lib.hid hb
  have HB := Lib.hid (HB.out.keep hb)
  have x3 := HB.out.cell 3
  have xf3 := HB.out.frozen 3
  have x4 := HB.out.cell 4
  clear hb hk hg
  have hset : Hid (∀ l : Int, Blk (V.setCell ⟨pw, 3, none⟩ (.int .i64 l)) pw 83 #[.slice Aw lw cw, .slice Aa la ca, .slice Ar lr cr, .int .i64 l, .int .i64 0] ∧ Blk (V.setCell ⟨pw, 3, none⟩ (.int .i64 l)) g 37 #[.int .i64 0, .int .i64 0, .string ⟨#[]⟩, .slice none 0 0] ∧ Fr (fun k => k = pw) W (V.setCell ⟨pw, 3, none⟩ (.int .i64 l))) := fun l =>
    ⟨HB.out.set_ 3 (.int .i64 l), HK.out.far (p := ⟨pw, 3, none⟩) HGP.out _, (Fr.of_below HBL.out _).same (Fr.setCell (fun k => k = pw) V (p := ⟨pw, 3, none⟩) (fun _ => rfl) _)⟩
  go_upto_region 8 with (fail)
  rw [HTG.out, HXN.out]
  refine wp_world (fun V => Blk V pw 83 #[.slice Aw lw cw, .slice Aa la ca, .slice Ar lr cr, .int .i64 (l1 : Int), .int .i64 0] ∧ Blk V g 37 #[.int .i64 0, .int .i64 0, .string ⟨#[]⟩, .slice none 0 0] ∧ Fr (fun k => k = pw) W V) (hset.out (l1 : Int)) ?_
  clear hset x3 xf3 x4 HB HK HBL
  rintro V ⟨h1, h2, h3⟩
  have HB := Lib.hid h1
  have HK := Lib.hid h2
  have HF := Lib.hid h3
  have HOV : Hid (Below w0.heap.size w0 V) := HOLD.out.trans (h3.below HOLD.out.size (fun k hk => by rw [hk]; exact HP0.out))
  clear h1 h2 h3
  clear HTG HXN
  generalize hnn : x / 8 = n at *
  clear hnn hx
  by_cases c1 : n ≤ 576460752303423487
  · have HE := Lib.hid (show rdT ws nm ahead x (l1 + 1) = .ok (.mk 5 (n : Int) [] [], l1) from by rw [HE0.out, if_pos (by decide)]; have h9 : leafP nm n 2 = some (.mk 5 (n : Int) [] []) := (by unfold leafP; rw [if_neg (by decide), if_neg (by decide), if_pos rfl, if_pos c1]); rw [h9])
    clear HE0
    go_wp2_with (go_at_call 73; refine (tpid_v (n : Int) _).mono ?_; rintro r V8 ⟨rfl, hb8⟩; have HB := Lib.hid (HB.out.keep hb8); have HK := Lib.hid (HK.out.keep hb8); have HF := Lib.hid (HF.out.same (Fr.of_below hb8 _)); clear hb8; have z0 := HK.out.cell 0; have z1 := HK.out.cell 1; have z2 := HK.out.cell 2; have z3 := HK.out.cell 3; have zf0 := HK.out.frozen 0; have zf1 := HK.out.frozen 1; have zf2 := HK.out.frozen 2; have zf3 := HK.out.frozen 3)
    have hB2 := HK.out.set4 (.int .i64 5) (.int .i64 ((n : Int))) (.string ⟨#[]⟩) (.slice none 0 0)
    have y0 := hB2.cell 0
    have y1 := hB2.cell 1
    have y2 := hB2.cell 2
    have y3 := hB2.cell 3
    have hfr := fr_set4 V8 g (.int .i64 5) (.int .i64 ((n : Int))) (.string ⟨#[]⟩) (.slice none 0 0)
    refine bodyPost_ret (v := .agg #[.int .i64 5, .int .i64 ((n : Int)), .string ⟨#[]⟩, .slice none 0 0]) (by simp [results, Try.results37, go_sem, y0, y1, y2, y3]) rfl ?_
    rw [HE.out]
    refine ⟨HF.out.trans hfr (fun k hk e => by have := HG.out; omega), 5, (n : Int), [], none, 0, 0, rfl, (fun er h => by cases h), fun t' l' h => ?_⟩
    simp only [Except.ok.injEq, Prod.mk.injEq] at h
    obtain ⟨rfl, rfl⟩ := h
    refine ⟨?_, hfr.blk HB.out (fun e => HGP.out e.symm)⟩
    exact ⟨none, 0, 0, rfl, rfl, rdM_nil _ _ _ (by omega)⟩
  · have HE := Lib.hid (show rdT ws nm ahead x (l1 + 1) = .error 90 from by rw [HE0.out, if_pos (by decide)]; have h9 : leafP nm n 2 = none := (by unfold leafP; rw [if_neg (by decide), if_neg (by decide), if_pos rfl, if_neg c1]); rw [h9])
    clear HE0
    go_wp2_with (go_at_call 71; refine (qfail_v (e := 90) HB.out).mono ?_; rintro r V8 ⟨rfl, hw8, hf8⟩; have HB := Lib.hid hw8; have HK := Lib.hid (hf8.blk HK.out HGP.out); have HF := Lib.hid (HF.out.same hf8); clear hw8 hf8; have z0 := HK.out.cell 0; have z1 := HK.out.cell 1; have z2 := HK.out.cell 2; have z3 := HK.out.cell 3; have zf0 := HK.out.frozen 0; have zf1 := HK.out.frozen 1; have zf2 := HK.out.frozen 2; have zf3 := HK.out.frozen 3)
    have hB2 := HK.out.set4 (.int .i64 0) (.int .i64 0) (.string ⟨#[]⟩) (.slice none 0 0)
    have y0 := hB2.cell 0
    have y1 := hB2.cell 1
    have y2 := hB2.cell 2
    have y3 := hB2.cell 3
    have hfr := fr_set4 V8 g (.int .i64 0) (.int .i64 0) (.string ⟨#[]⟩) (.slice none 0 0)
    refine bodyPost_ret (v := .agg #[.int .i64 0, .int .i64 0, .string ⟨#[]⟩, .slice none 0 0]) (by simp [results, Try.results37, go_sem, y0, y1, y2, y3]) rfl ?_
    rw [HE.out]
    refine ⟨HF.out.trans hfr (fun k hk e => by have := HG.out; omega), 0, 0, [], none, 0, 0, rfl, fun er h => ?_, fun t l h => by cases h⟩
    cases h
    exact ⟨by decide, (l1 : Int), hfr.blk HB.out (fun e => HGP.out e.symm)⟩
set_option maxRecDepth 100000 in
set_option maxHeartbeats 4000000 in
theorem qterm3 (ahead x l1 : Nat) (W : World) (hx : x < 18446744073709551616) (hxt : x % 8 = 3) (hleft : l1 + 1 ≤ 4096) (hold : Below w0.heap.size w0 W) (hB : Blk W pw 83 #[.slice Aw lw cw, .slice Aa la ca, .slice Ar lr cr, .int .i64 ((l1 + 1 : Nat) : Int), .int .i64 0]) (hpw : w0.heap.size ≤ pw) (hR : RdC w0 Aw (ws.map nv)) (hN : RdC w0 Aa (nm.map hv)) (hl : ws.length = lw) (hln : nm.length = la) (h64 : W64 ws) (hlw : lw ≤ 100000) (hla : la ≤ 100000) (ha : ahead ≤ lw) :
    Calls Try.prog 37 #[.pointer (some ⟨pw, 0, none⟩), .int .u64 (x : Int), .int .i64 (ahead : Int)] W (QTE pw Aw lw cw Aa la ca Ar lr cr W (rdT ws nm ahead x (l1 + 1))) := by
  have HB := Lib.hid hB
  have HPW := Lib.hid hB.lt
  have HOLD := Lib.hid hold
  have HR := Lib.hid hR
  have HN := Lib.hid hN
  have HP0 := Lib.hid hpw
  have HH := Lib.hid (And.intro hl (And.intro hln h64))
  have HTG := Lib.hid (show wrap64 (bits BinOp.and IntKind.u64 (x : Int) 7) = 3 from by rw [and7 x hx, hxt]; rfl)
  have HXN := Lib.hid (show (x : Int) / 8 = ((x / 8 : Nat) : Int) by omega)
  have hn61 : x / 8 < 2305843009213693952 := by omega
  have HE0 := Lib.hid (show rdT ws nm ahead x (l1 + 1) = if 3 < 5 then (match leafP nm (x / 8) 3 with | none => .error 90 | some t => .ok (t, l1)) else if h : x / 8 < ahead then (match cellP ws (x / 8) 3 with | none => .error 90 | some (k, i, items) => match rdL (fun y l => rdT ws nm (x / 8) y l) items l1 with | .error e => .error e | .ok (ts, l1) => .ok (.mk k i [] ts, l1)) else .error 90 from by rw [rdT, hxt]; rw [if_neg (by omega)]; rfl)
  clear hB hold hR hN hl hln h64 hpw hxt
  obtain ⟨g, hg⟩ : ∃ g, W.heap.size = g := ⟨_, rfl⟩
  have HG := Lib.hid hg
  have HGP : Hid (g ≠ pw) := by have := HPW.out; unfold Hid; omega
  go_enter Try.func37, Try.ntmps37
  go_upto_region 1 with (fail)
  refine wp_world (fun V => Below W.heap.size W V ∧ Blk V g 37 #[.int .i64 0, .int .i64 0, .string ⟨#[]⟩, .slice none 0 0]) ⟨below_alloc _ _, by rw [← HG.out]; exact Blk.new _ _ _⟩ ?_
  rintro V ⟨hb, hk⟩
  have HK := Lib.hid hk
  have HBL := Lib.hid hb
  have HB := Lib.hid (HB.out.keep hb)
  have x3 := HB.out.cell 3
  have xf3 := HB.out.frozen 3
  have x4 := HB.out.cell 4
  clear hb hk hg
  have hset : Hid (∀ l : Int, Blk (V.setCell ⟨pw, 3, none⟩ (.int .i64 l)) pw 83 #[.slice Aw lw cw, .slice Aa la ca, .slice Ar lr cr, .int .i64 l, .int .i64 0] ∧ Blk (V.setCell ⟨pw, 3, none⟩ (.int .i64 l)) g 37 #[.int .i64 0, .int .i64 0, .string ⟨#[]⟩, .slice none 0 0] ∧ Fr (fun k => k = pw) W (V.setCell ⟨pw, 3, none⟩ (.int .i64 l))) := fun l =>
    ⟨HB.out.set_ 3 (.int .i64 l), HK.out.far (p := ⟨pw, 3, none⟩) HGP.out _, (Fr.of_below HBL.out _).same (Fr.setCell (fun k => k = pw) V (p := ⟨pw, 3, none⟩) (fun _ => rfl) _)⟩
  go_upto_region 8 with (fail)
  rw [HTG.out, HXN.out]
  refine wp_world (fun V => Blk V pw 83 #[.slice Aw lw cw, .slice Aa la ca, .slice Ar lr cr, .int .i64 (l1 : Int), .int .i64 0] ∧ Blk V g 37 #[.int .i64 0, .int .i64 0, .string ⟨#[]⟩, .slice none 0 0] ∧ Fr (fun k => k = pw) W V) (hset.out (l1 : Int)) ?_
  clear hset x3 xf3 x4 HB HK HBL
  rintro V ⟨h1, h2, h3⟩
  have HB := Lib.hid h1
  have HK := Lib.hid h2
  have HF := Lib.hid h3
  have HOV : Hid (Below w0.heap.size w0 V) := HOLD.out.trans (h3.below HOLD.out.size (fun k hk => by rw [hk]; exact HP0.out))
  clear h1 h2 h3
  clear HTG HXN
  generalize hnn : x / 8 = n at *
  clear hnn hx
  by_cases c1 : n ≤ 576460752303423487
  · have HE := Lib.hid (show rdT ws nm ahead x (l1 + 1) = .ok (.mk 3 (n : Int) [] [], l1) from by rw [HE0.out, if_pos (by decide)]; have h9 : leafP nm n 3 = some (.mk 3 (n : Int) [] []) := (by unfold leafP; rw [if_neg (by decide), if_neg (by decide), if_neg (by decide), if_pos rfl, if_pos c1]); rw [h9])
    clear HE0
    go_wp2_with (go_at_call 74; refine (tref_v (n : Int) _).mono ?_; rintro r V8 ⟨rfl, hb8⟩; have HB := Lib.hid (HB.out.keep hb8); have HK := Lib.hid (HK.out.keep hb8); have HF := Lib.hid (HF.out.same (Fr.of_below hb8 _)); clear hb8; have z0 := HK.out.cell 0; have z1 := HK.out.cell 1; have z2 := HK.out.cell 2; have z3 := HK.out.cell 3; have zf0 := HK.out.frozen 0; have zf1 := HK.out.frozen 1; have zf2 := HK.out.frozen 2; have zf3 := HK.out.frozen 3)
    have hB2 := HK.out.set4 (.int .i64 3) (.int .i64 ((n : Int))) (.string ⟨#[]⟩) (.slice none 0 0)
    have y0 := hB2.cell 0
    have y1 := hB2.cell 1
    have y2 := hB2.cell 2
    have y3 := hB2.cell 3
    have hfr := fr_set4 V8 g (.int .i64 3) (.int .i64 ((n : Int))) (.string ⟨#[]⟩) (.slice none 0 0)
    refine bodyPost_ret (v := .agg #[.int .i64 3, .int .i64 ((n : Int)), .string ⟨#[]⟩, .slice none 0 0]) (by simp [results, Try.results37, go_sem, y0, y1, y2, y3]) rfl ?_
    rw [HE.out]
    refine ⟨HF.out.trans hfr (fun k hk e => by have := HG.out; omega), 3, (n : Int), [], none, 0, 0, rfl, (fun er h => by cases h), fun t' l' h => ?_⟩
    simp only [Except.ok.injEq, Prod.mk.injEq] at h
    obtain ⟨rfl, rfl⟩ := h
    refine ⟨?_, hfr.blk HB.out (fun e => HGP.out e.symm)⟩
    exact ⟨none, 0, 0, rfl, rfl, rdM_nil _ _ _ (by omega)⟩
  · have HE := Lib.hid (show rdT ws nm ahead x (l1 + 1) = .error 90 from by rw [HE0.out, if_pos (by decide)]; have h9 : leafP nm n 3 = none := (by unfold leafP; rw [if_neg (by decide), if_neg (by decide), if_neg (by decide), if_pos rfl, if_neg c1]); rw [h9])
    clear HE0
    go_wp2_with (go_at_call 71; refine (qfail_v (e := 90) HB.out).mono ?_; rintro r V8 ⟨rfl, hw8, hf8⟩; have HB := Lib.hid hw8; have HK := Lib.hid (hf8.blk HK.out HGP.out); have HF := Lib.hid (HF.out.same hf8); clear hw8 hf8; have z0 := HK.out.cell 0; have z1 := HK.out.cell 1; have z2 := HK.out.cell 2; have z3 := HK.out.cell 3; have zf0 := HK.out.frozen 0; have zf1 := HK.out.frozen 1; have zf2 := HK.out.frozen 2; have zf3 := HK.out.frozen 3)
    have hB2 := HK.out.set4 (.int .i64 0) (.int .i64 0) (.string ⟨#[]⟩) (.slice none 0 0)
    have y0 := hB2.cell 0
    have y1 := hB2.cell 1
    have y2 := hB2.cell 2
    have y3 := hB2.cell 3
    have hfr := fr_set4 V8 g (.int .i64 0) (.int .i64 0) (.string ⟨#[]⟩) (.slice none 0 0)
    refine bodyPost_ret (v := .agg #[.int .i64 0, .int .i64 0, .string ⟨#[]⟩, .slice none 0 0]) (by simp [results, Try.results37, go_sem, y0, y1, y2, y3]) rfl ?_
    rw [HE.out]
    refine ⟨HF.out.trans hfr (fun k hk e => by have := HG.out; omega), 0, 0, [], none, 0, 0, rfl, fun er h => ?_, fun t l h => by cases h⟩
    cases h
    exact ⟨by decide, (l1 : Int), hfr.blk HB.out (fun e => HGP.out e.symm)⟩
set_option maxRecDepth 100000 in
set_option maxHeartbeats 4000000 in
theorem qterm4 (ahead x l1 : Nat) (W : World) (hx : x < 18446744073709551616) (hxt : x % 8 = 4) (hleft : l1 + 1 ≤ 4096) (hold : Below w0.heap.size w0 W) (hB : Blk W pw 83 #[.slice Aw lw cw, .slice Aa la ca, .slice Ar lr cr, .int .i64 ((l1 + 1 : Nat) : Int), .int .i64 0]) (hpw : w0.heap.size ≤ pw) (hR : RdC w0 Aw (ws.map nv)) (hN : RdC w0 Aa (nm.map hv)) (hl : ws.length = lw) (hln : nm.length = la) (h64 : W64 ws) (hlw : lw ≤ 100000) (hla : la ≤ 100000) (ha : ahead ≤ lw) :
    Calls Try.prog 37 #[.pointer (some ⟨pw, 0, none⟩), .int .u64 (x : Int), .int .i64 (ahead : Int)] W (QTE pw Aw lw cw Aa la ca Ar lr cr W (rdT ws nm ahead x (l1 + 1))) := by
  have HB := Lib.hid hB
  have HPW := Lib.hid hB.lt
  have HOLD := Lib.hid hold
  have HR := Lib.hid hR
  have HN := Lib.hid hN
  have HP0 := Lib.hid hpw
  have HH := Lib.hid (And.intro hl (And.intro hln h64))
  have HTG := Lib.hid (show wrap64 (bits BinOp.and IntKind.u64 (x : Int) 7) = 4 from by rw [and7 x hx, hxt]; rfl)
  have HXN := Lib.hid (show (x : Int) / 8 = ((x / 8 : Nat) : Int) by omega)
  have hn61 : x / 8 < 2305843009213693952 := by omega
  have HE0 := Lib.hid (show rdT ws nm ahead x (l1 + 1) = if 4 < 5 then (match leafP nm (x / 8) 4 with | none => .error 90 | some t => .ok (t, l1)) else if h : x / 8 < ahead then (match cellP ws (x / 8) 4 with | none => .error 90 | some (k, i, items) => match rdL (fun y l => rdT ws nm (x / 8) y l) items l1 with | .error e => .error e | .ok (ts, l1) => .ok (.mk k i [] ts, l1)) else .error 90 from by rw [rdT, hxt]; rw [if_neg (by omega)]; rfl)
  clear hB hold hR hN hl hln h64 hpw hxt
  obtain ⟨g, hg⟩ : ∃ g, W.heap.size = g := ⟨_, rfl⟩
  have HG := Lib.hid hg
  have HGP : Hid (g ≠ pw) := by have := HPW.out; unfold Hid; omega
  go_enter Try.func37, Try.ntmps37
  go_upto_region 1 with (fail)
  refine wp_world (fun V => Below W.heap.size W V ∧ Blk V g 37 #[.int .i64 0, .int .i64 0, .string ⟨#[]⟩, .slice none 0 0]) ⟨below_alloc _ _, by rw [← HG.out]; exact Blk.new _ _ _⟩ ?_
  rintro V ⟨hb, hk⟩
  have HK := Lib.hid hk
  have HBL := Lib.hid hb
  have HB := Lib.hid (HB.out.keep hb)
  have x3 := HB.out.cell 3
  have xf3 := HB.out.frozen 3
  have x4 := HB.out.cell 4
  clear hb hk hg
  have hset : Hid (∀ l : Int, Blk (V.setCell ⟨pw, 3, none⟩ (.int .i64 l)) pw 83 #[.slice Aw lw cw, .slice Aa la ca, .slice Ar lr cr, .int .i64 l, .int .i64 0] ∧ Blk (V.setCell ⟨pw, 3, none⟩ (.int .i64 l)) g 37 #[.int .i64 0, .int .i64 0, .string ⟨#[]⟩, .slice none 0 0] ∧ Fr (fun k => k = pw) W (V.setCell ⟨pw, 3, none⟩ (.int .i64 l))) := fun l =>
    ⟨HB.out.set_ 3 (.int .i64 l), HK.out.far (p := ⟨pw, 3, none⟩) HGP.out _, (Fr.of_below HBL.out _).same (Fr.setCell (fun k => k = pw) V (p := ⟨pw, 3, none⟩) (fun _ => rfl) _)⟩
  go_upto_region 8 with (fail)
  rw [HTG.out, HXN.out]
  refine wp_world (fun V => Blk V pw 83 #[.slice Aw lw cw, .slice Aa la ca, .slice Ar lr cr, .int .i64 (l1 : Int), .int .i64 0] ∧ Blk V g 37 #[.int .i64 0, .int .i64 0, .string ⟨#[]⟩, .slice none 0 0] ∧ Fr (fun k => k = pw) W V) (hset.out (l1 : Int)) ?_
  clear hset x3 xf3 x4 HB HK HBL
  rintro V ⟨h1, h2, h3⟩
  have HB := Lib.hid h1
  have HK := Lib.hid h2
  have HF := Lib.hid h3
  have HOV : Hid (Below w0.heap.size w0 V) := HOLD.out.trans (h3.below HOLD.out.size (fun k hk => by rw [hk]; exact HP0.out))
  clear h1 h2 h3
  clear HTG HXN
  generalize hnn : x / 8 = n at *
  clear hnn hx
  by_cases c1 : n = 0
  · have HE := Lib.hid (show rdT ws nm ahead x (l1 + 1) = .ok (tN, l1) from by rw [HE0.out, if_pos (by decide)]; have h9 : leafP nm n 4 = some tN := (by unfold leafP; rw [if_neg (by decide), if_neg (by decide), if_neg (by decide), if_neg (by decide), if_pos c1]); rw [h9])
    subst c1
    clear HE0
    go_wp2_with (go_at_call 55; refine (tnil_v _).mono ?_; rintro r V8 ⟨rfl, hb8⟩; have HB := Lib.hid (HB.out.keep hb8); have HK := Lib.hid (HK.out.keep hb8); have HF := Lib.hid (HF.out.same (Fr.of_below hb8 _)); clear hb8; have z0 := HK.out.cell 0; have z1 := HK.out.cell 1; have z2 := HK.out.cell 2; have z3 := HK.out.cell 3; have zf0 := HK.out.frozen 0; have zf1 := HK.out.frozen 1; have zf2 := HK.out.frozen 2; have zf3 := HK.out.frozen 3)
    have hB2 := HK.out.set4 (.int .i64 7) (.int .i64 (0)) (.string ⟨#[]⟩) (.slice none 0 0)
    have y0 := hB2.cell 0
    have y1 := hB2.cell 1
    have y2 := hB2.cell 2
    have y3 := hB2.cell 3
    have hfr := fr_set4 V8 g (.int .i64 7) (.int .i64 (0)) (.string ⟨#[]⟩) (.slice none 0 0)
    refine bodyPost_ret (v := .agg #[.int .i64 7, .int .i64 (0), .string ⟨#[]⟩, .slice none 0 0]) (by simp [results, Try.results37, go_sem, y0, y1, y2, y3]) rfl ?_
    rw [HE.out]
    refine ⟨HF.out.trans hfr (fun k hk e => by have := HG.out; omega), 7, 0, [], none, 0, 0, rfl, (fun er h => by cases h), fun t' l' h => ?_⟩
    simp only [Except.ok.injEq, Prod.mk.injEq] at h
    obtain ⟨rfl, rfl⟩ := h
    refine ⟨?_, hfr.blk HB.out (fun e => HGP.out e.symm)⟩
    exact ⟨none, 0, 0, rfl, rfl, rdM_nil _ _ _ (by omega)⟩
  · have HE := Lib.hid (show rdT ws nm ahead x (l1 + 1) = .error 90 from by rw [HE0.out, if_pos (by decide)]; have h9 : leafP nm n 4 = none := (by unfold leafP; rw [if_neg (by decide), if_neg (by decide), if_neg (by decide), if_neg (by decide), if_neg c1]); rw [h9])
    have d1 : ((n : Int) != 0) = true := by simpa using c1
    have d2 : ((n : Int) == 0) = false := by simpa using c1
    clear HE0
    go_wp2_with (go_at_call 71; refine (qfail_v (e := 90) HB.out).mono ?_; rintro r V8 ⟨rfl, hw8, hf8⟩; have HB := Lib.hid hw8; have HK := Lib.hid (hf8.blk HK.out HGP.out); have HF := Lib.hid (HF.out.same hf8); clear hw8 hf8; have z0 := HK.out.cell 0; have z1 := HK.out.cell 1; have z2 := HK.out.cell 2; have z3 := HK.out.cell 3; have zf0 := HK.out.frozen 0; have zf1 := HK.out.frozen 1; have zf2 := HK.out.frozen 2; have zf3 := HK.out.frozen 3)
    have hB2 := HK.out.set4 (.int .i64 0) (.int .i64 0) (.string ⟨#[]⟩) (.slice none 0 0)
    have y0 := hB2.cell 0
    have y1 := hB2.cell 1
    have y2 := hB2.cell 2
    have y3 := hB2.cell 3
    have hfr := fr_set4 V8 g (.int .i64 0) (.int .i64 0) (.string ⟨#[]⟩) (.slice none 0 0)
    refine bodyPost_ret (v := .agg #[.int .i64 0, .int .i64 0, .string ⟨#[]⟩, .slice none 0 0]) (by simp [results, Try.results37, go_sem, y0, y1, y2, y3]) rfl ?_
    rw [HE.out]
    refine ⟨HF.out.trans hfr (fun k hk e => by have := HG.out; omega), 0, 0, [], none, 0, 0, rfl, fun er h => ?_, fun t l h => by cases h⟩
    cases h
    exact ⟨by decide, (l1 : Int), hfr.blk HB.out (fun e => HGP.out e.symm)⟩
end
end Go.Proofs.Ytefnjplfemgibaa
