/- Arith (layer 14): truth, wrong, number, fits, size, product, logic. Written by argen.py. -/
import Derived.Test.YtbpnlpjbjmojfaaGreatArB
namespace Go.Proofs.YtbpnlpjbjmojfaaGreat
open Go.RowKit
set_option linter.unusedVariables false

def sLim : List UInt8 := [115, 121, 115, 116, 101, 109, 95, 108, 105, 109, 105, 116]
def sArg : List UInt8 := [98, 97, 100, 97, 114, 103]
def sAri : List UInt8 := [98, 97, 100, 97, 114, 105, 116, 104]
def sUnd : List UInt8 := [117, 110, 100, 101, 102]
def sTrue : List UInt8 := [116, 114, 117, 101]
def sFalse : List UInt8 := [102, 97, 108, 115, 101]
def truT (b : Bool) : TV := tA (if b then sTrue else sFalse)
def numP (n : Int) : TV × List UInt8 := if n < -576460752303423488 ∨ 576460752303423487 < n then (tZ, sLim) else (tI n, [])
def fitP (t : TV) : TV × List UInt8 := if t.parts ≤ 4096 then (t, []) else (tZ, sLim)
/-- A truth's value; is it one? -/
def lgP (t : TV) : Bool × Bool := if t.kind = 2 then (t.name == sTrue, t.name == sTrue || t.name == sFalse) else (false, false)
abbrev zAgg : Value := .agg #[.int .i64 0, .int .i64 0, .string ⟨#[]⟩, .slice none 0 0]
section
variable {W V V' : World} {u u1 u2 : Value} {t t1 t2 : TV}
theorem Blk.newAt {w : World} {t g : Nat} {cs : Array Value} (h : w.heap.size = g) : Blk (w.alloc (.cells cs t)) g t cs := by rw [← h]; exact Blk.new w t cs
/-- The end of a function that returns a struct by the cell p. -/
theorem fin4 {X : Nat → Prop} {w1 : World} {p : Nat} {x0 x1 x2 x3 : Value} (hb : Below W.heap.size W w1) (hp : W.heap.size ≤ p) (hT : TEx (fun k => X k ∨ k = p) w1 (.agg #[x0, x1, x2, x3]) t) :
    TEx X ((((w1.setCell ⟨p, 0, none⟩ x0).setCell ⟨p, 1, none⟩ x1).setCell ⟨p, 2, none⟩ x2).setCell ⟨p, 3, none⟩ x3) (.agg #[x0, x1, x2, x3]) t ∧ Below W.heap.size W ((((w1.setCell ⟨p, 0, none⟩ x0).setCell ⟨p, 1, none⟩ x1).setCell ⟨p, 2, none⟩ x2).setCell ⟨p, 3, none⟩ x3) := by
  have hfr := fr_set4 w1 p x0 x1 x2 x3
  exact ⟨(hT.step hfr (fun k _ h => .inr h)).weak (fun k _ h => .inl h), hb.trans (hfr.below hb.size (fun k hk => by rw [hk]; exact hp))⟩
theorem TEx.up {X : Nat → Prop} {p : Nat} (h : TEx X W u t) (hb : Below W.heap.size W V) (hp : W.heap.size ≤ p) : TEx (fun k => X k ∨ k = p) V u t :=
  (h.weak (Y := fun k => X k ∨ k = p) (by rintro k hk (h9 | rfl); exact h9; omega)).below hb
theorem LEx.up {X : Nat → Prop} {p : Nat} {l : List TV} (h : LEx X W u l) (hb : Below W.heap.size W V) (hp : W.heap.size ≤ p) : LEx (fun k => X k ∨ k = p) V u l :=
  (h.weak (Y := fun k => X k ∨ k = p) (by rintro k hk (h9 | rfl); exact h9; omega)).below hb
theorem r1_int (X : Nat → Prop) (n : Int) (W : World) : Calls Tryz.prog 43 #[.int .i64 n] W (R1 X W (tI n)) := (pint_v n W).mono (by rintro e w ⟨rfl, hb⟩; exact ⟨_, rfl, tex_i _ _ _, hb⟩)
theorem r1_atom (X : Nat → Prop) (s : List UInt8) (W : World) : Calls Tryz.prog 85 #[.string ⟨s.toArray⟩] W (R1 X W (tA s)) := (patom_v s W).mono (by rintro e w ⟨rfl, hb⟩; exact ⟨_, rfl, tex_a _ _ _, hb⟩)
theorem r1_nil (X : Nat → Prop) (W : World) : Calls Tryz.prog 89 #[] W (R1 X W tN) := (pnil_v W).mono (by rintro e w ⟨rfl, hb⟩; exact ⟨_, rfl, tex_n _ _, hb⟩)
theorem fitP_yes (h : t.parts ≤ 4096) : fitP t = (t, []) := by unfold fitP; rw [if_pos h]
theorem fitP_no (h : ¬ t.parts ≤ 4096) : fitP t = (tZ, sLim) := by unfold fitP; rw [if_neg h]

set_option maxRecDepth 100000 in
set_option maxHeartbeats 1000000 in
theorem wrong_v (X : Nat → Prop) (s : List UInt8) (W : World) : Calls Tryz.prog 20 #[.string ⟨s.toArray⟩] W (R2 X W (tZ, s)) := by
  go_enter Tryz.func20, Tryz.ntmps20
  go_wp2
  exact bodyPost_ret (v := .tuple #[zAgg, .string ⟨s.toArray⟩]) (by simp [results, Tryz.results20, go_sem]) rfl ⟨_, rfl, tex_z _ _, below_alloc _ _⟩
set_option maxRecDepth 100000 in
set_option maxHeartbeats 1000000 in
theorem truth_v {X : Nat → Prop} (hX : ∀ k, X k → k < W.heap.size) (b : Bool) : Calls Tryz.prog 37 #[.bool b] W (R2 X W (truT b, [])) := by
  cases b
  case true =>
    show Calls _ _ _ _ (R2 X W (tA sTrue, []))
    go_enter Tryz.func37, Tryz.ntmps37
    go_upto_region 1 with (fail)
    refine wp_world (fun V => Below W.heap.size W V ∧ Blk V (W.heap.size) 26 #[.int .i64 0, .int .i64 0, .string ⟨#[]⟩, .slice none 0 0]) ⟨below_alloc _ _, (Blk.newAt (by first | (with_reducible rfl) | simp))⟩ ?_
    rintro V ⟨hb, hz⟩
    have HB := Lib.hid hb
    have HKz := Lib.hid hz
    have z0 := HKz.out.cell 0
    have z1 := HKz.out.cell 1
    have z2 := HKz.out.cell 2
    have z3 := HKz.out.cell 3
    have zf0 := HKz.out.frozen 0
    have zf1 := HKz.out.frozen 1
    have zf2 := HKz.out.frozen 2
    have zf3 := HKz.out.frozen 3
    clear hb hz
    go_wp2_with (go_at_call 85; refine (r1_atom (fun k => X k ∨ k = W.heap.size) sTrue V).mono ?_; rintro e w1 ⟨v, rfl, hT, hb1⟩; obtain ⟨A9, n9, c9, rfl, hn⟩ := hT.form; have HT := Lib.hid hT; have HKz := Lib.hid (HKz.out.keep hb1); have HB := Lib.hid (below_step HB.out hb1); have z0 := HKz.out.cell 0; have z1 := HKz.out.cell 1; have z2 := HKz.out.cell 2; have z3 := HKz.out.cell 3; have zf0 := HKz.out.frozen 0; have zf1 := HKz.out.frozen 1; have zf2 := HKz.out.frozen 2; have zf3 := HKz.out.frozen 3; clear hn hT hb1)
    have hB2 := HKz.out.set4 (.int .i64 ((tA sTrue)).kind) (.int .i64 ((tA sTrue)).int) (.string ⟨((tA sTrue)).name.toArray⟩) (.slice A9 n9 c9)
    have y0 := hB2.cell 0
    have y1 := hB2.cell 1
    have y2 := hB2.cell 2
    have y3 := hB2.cell 3
    refine bodyPost_ret (v := .tuple #[.agg #[.int .i64 ((tA sTrue)).kind, .int .i64 ((tA sTrue)).int, .string ⟨((tA sTrue)).name.toArray⟩, .slice A9 n9 c9], .string ⟨(([] : List UInt8)).toArray⟩]) (by simp [results, Tryz.results37, go_sem, y0, y1, y2, y3]) rfl ?_
    obtain ⟨g1, g2⟩ := fin4 (X := X) HB.out (by omega) HT.out
    exact ⟨_, rfl, g1, g2⟩
  case false =>
    show Calls _ _ _ _ (R2 X W (tA sFalse, []))
    go_enter Tryz.func37, Tryz.ntmps37
    go_upto_region 1 with (fail)
    refine wp_world (fun V => Below W.heap.size W V ∧ Blk V (W.heap.size) 26 #[.int .i64 0, .int .i64 0, .string ⟨#[]⟩, .slice none 0 0]) ⟨below_alloc _ _, (Blk.newAt (by first | (with_reducible rfl) | simp))⟩ ?_
    rintro V ⟨hb, hz⟩
    have HB := Lib.hid hb
    have HKz := Lib.hid hz
    have z0 := HKz.out.cell 0
    have z1 := HKz.out.cell 1
    have z2 := HKz.out.cell 2
    have z3 := HKz.out.cell 3
    have zf0 := HKz.out.frozen 0
    have zf1 := HKz.out.frozen 1
    have zf2 := HKz.out.frozen 2
    have zf3 := HKz.out.frozen 3
    clear hb hz
    go_wp2_with (go_at_call 85; refine (r1_atom (fun k => X k ∨ k = W.heap.size) sFalse V).mono ?_; rintro e w1 ⟨v, rfl, hT, hb1⟩; obtain ⟨A9, n9, c9, rfl, hn⟩ := hT.form; have HT := Lib.hid hT; have HKz := Lib.hid (HKz.out.keep hb1); have HB := Lib.hid (below_step HB.out hb1); have z0 := HKz.out.cell 0; have z1 := HKz.out.cell 1; have z2 := HKz.out.cell 2; have z3 := HKz.out.cell 3; have zf0 := HKz.out.frozen 0; have zf1 := HKz.out.frozen 1; have zf2 := HKz.out.frozen 2; have zf3 := HKz.out.frozen 3; clear hn hT hb1)
    have hB2 := HKz.out.set4 (.int .i64 ((tA sFalse)).kind) (.int .i64 ((tA sFalse)).int) (.string ⟨((tA sFalse)).name.toArray⟩) (.slice A9 n9 c9)
    have y0 := hB2.cell 0
    have y1 := hB2.cell 1
    have y2 := hB2.cell 2
    have y3 := hB2.cell 3
    refine bodyPost_ret (v := .tuple #[.agg #[.int .i64 ((tA sFalse)).kind, .int .i64 ((tA sFalse)).int, .string ⟨((tA sFalse)).name.toArray⟩, .slice A9 n9 c9], .string ⟨(([] : List UInt8)).toArray⟩]) (by simp [results, Tryz.results37, go_sem, y0, y1, y2, y3]) rfl ?_
    obtain ⟨g1, g2⟩ := fin4 (X := X) HB.out (by omega) HT.out
    exact ⟨_, rfl, g1, g2⟩
set_option maxRecDepth 100000 in
set_option maxHeartbeats 1000000 in
theorem number_v {X : Nat → Prop} (hX : ∀ k, X k → k < W.heap.size) (n : Int) : Calls Tryz.prog 34 #[.int .i64 n] W (R2 X W (numP n)) := by
  have HX := Lib.hid hX
  clear hX
  unfold numP
  by_cases h1 : n < -576460752303423488 ∨ 576460752303423487 < n
  · rw [if_pos h1]
    by_cases h2 : n < -576460752303423488
    · clear h1
      have hd : decide (n < -576460752303423488) = true := by simp; omega
      go_enter Tryz.func34, Tryz.ntmps34
      go_upto_region 1 with (fail)
      refine wp_world (fun V => Below W.heap.size W V ∧ Blk V (W.heap.size) 26 #[.int .i64 0, .int .i64 0, .string ⟨#[]⟩, .slice none 0 0]) ⟨below_alloc _ _, (Blk.newAt (by first | (with_reducible rfl) | simp))⟩ ?_
      rintro V ⟨hb, hz⟩
      have HB := Lib.hid hb
      have HKz := Lib.hid hz
      have z0 := HKz.out.cell 0
      have z1 := HKz.out.cell 1
      have z2 := HKz.out.cell 2
      have z3 := HKz.out.cell 3
      have zf0 := HKz.out.frozen 0
      have zf1 := HKz.out.frozen 1
      have zf2 := HKz.out.frozen 2
      have zf3 := HKz.out.frozen 3
      clear hb hz
      go_wp2_with (go_at_call 20; refine (wrong_v (fun k => X k ∨ k = W.heap.size) sLim V).mono ?_; rintro e w1 ⟨v, rfl, hT, hb1⟩; obtain ⟨A9, n9, c9, rfl, hn⟩ := hT.form; have HT := Lib.hid hT; have HKz := Lib.hid (HKz.out.keep hb1); have HB := Lib.hid (below_step HB.out hb1); have z0 := HKz.out.cell 0; have z1 := HKz.out.cell 1; have z2 := HKz.out.cell 2; have z3 := HKz.out.cell 3; have zf0 := HKz.out.frozen 0; have zf1 := HKz.out.frozen 1; have zf2 := HKz.out.frozen 2; have zf3 := HKz.out.frozen 3; clear hn hT hb1)
      have hB2 := HKz.out.set4 (.int .i64 (tZ).kind) (.int .i64 (tZ).int) (.string ⟨(tZ).name.toArray⟩) (.slice A9 n9 c9)
      have y0 := hB2.cell 0
      have y1 := hB2.cell 1
      have y2 := hB2.cell 2
      have y3 := hB2.cell 3
      refine bodyPost_ret (v := .tuple #[.agg #[.int .i64 (tZ).kind, .int .i64 (tZ).int, .string ⟨(tZ).name.toArray⟩, .slice A9 n9 c9], .string ⟨(sLim).toArray⟩]) (by simp [results, Tryz.results34, go_sem, y0, y1, y2, y3]) rfl ?_
      obtain ⟨g1, g2⟩ := fin4 (X := X) HB.out (by omega) HT.out
      exact ⟨_, rfl, g1, g2⟩
    · have h3 : 576460752303423487 < n := by omega
      clear h1
      have hd : decide (n < -576460752303423488) = false := by simp; omega
      have hd2 : decide (576460752303423487 < n) = true := by simp; omega
      go_enter Tryz.func34, Tryz.ntmps34
      go_upto_region 1 with (fail)
      refine wp_world (fun V => Below W.heap.size W V ∧ Blk V (W.heap.size) 26 #[.int .i64 0, .int .i64 0, .string ⟨#[]⟩, .slice none 0 0]) ⟨below_alloc _ _, (Blk.newAt (by first | (with_reducible rfl) | simp))⟩ ?_
      rintro V ⟨hb, hz⟩
      have HB := Lib.hid hb
      have HKz := Lib.hid hz
      have z0 := HKz.out.cell 0
      have z1 := HKz.out.cell 1
      have z2 := HKz.out.cell 2
      have z3 := HKz.out.cell 3
      have zf0 := HKz.out.frozen 0
      have zf1 := HKz.out.frozen 1
      have zf2 := HKz.out.frozen 2
      have zf3 := HKz.out.frozen 3
      clear hb hz
      go_wp2_with (go_at_call 20; refine (wrong_v (fun k => X k ∨ k = W.heap.size) sLim V).mono ?_; rintro e w1 ⟨v, rfl, hT, hb1⟩; obtain ⟨A9, n9, c9, rfl, hn⟩ := hT.form; have HT := Lib.hid hT; have HKz := Lib.hid (HKz.out.keep hb1); have HB := Lib.hid (below_step HB.out hb1); have z0 := HKz.out.cell 0; have z1 := HKz.out.cell 1; have z2 := HKz.out.cell 2; have z3 := HKz.out.cell 3; have zf0 := HKz.out.frozen 0; have zf1 := HKz.out.frozen 1; have zf2 := HKz.out.frozen 2; have zf3 := HKz.out.frozen 3; clear hn hT hb1)
      have hB2 := HKz.out.set4 (.int .i64 (tZ).kind) (.int .i64 (tZ).int) (.string ⟨(tZ).name.toArray⟩) (.slice A9 n9 c9)
      have y0 := hB2.cell 0
      have y1 := hB2.cell 1
      have y2 := hB2.cell 2
      have y3 := hB2.cell 3
      refine bodyPost_ret (v := .tuple #[.agg #[.int .i64 (tZ).kind, .int .i64 (tZ).int, .string ⟨(tZ).name.toArray⟩, .slice A9 n9 c9], .string ⟨(sLim).toArray⟩]) (by simp [results, Tryz.results34, go_sem, y0, y1, y2, y3]) rfl ?_
      obtain ⟨g1, g2⟩ := fin4 (X := X) HB.out (by omega) HT.out
      exact ⟨_, rfl, g1, g2⟩
  · rw [if_neg h1]
    have h2 : ¬ n < -576460752303423488 := by omega
    have h3 : ¬ 576460752303423487 < n := by omega
    clear h1
    have hd : decide (n < -576460752303423488) = false := by simp; omega
    have hd2 : decide (576460752303423487 < n) = false := by simp; omega
    go_enter Tryz.func34, Tryz.ntmps34
    go_upto_region 1 with (fail)
    refine wp_world (fun V => Below W.heap.size W V ∧ Blk V (W.heap.size) 26 #[.int .i64 0, .int .i64 0, .string ⟨#[]⟩, .slice none 0 0]) ⟨below_alloc _ _, (Blk.newAt (by first | (with_reducible rfl) | simp))⟩ ?_
    rintro V ⟨hb, hz⟩
    have HB := Lib.hid hb
    have HKz := Lib.hid hz
    have z0 := HKz.out.cell 0
    have z1 := HKz.out.cell 1
    have z2 := HKz.out.cell 2
    have z3 := HKz.out.cell 3
    have zf0 := HKz.out.frozen 0
    have zf1 := HKz.out.frozen 1
    have zf2 := HKz.out.frozen 2
    have zf3 := HKz.out.frozen 3
    clear hb hz
    go_wp2_with (go_at_call 43; refine (r1_int (fun k => X k ∨ k = W.heap.size) n V).mono ?_; rintro e w1 ⟨v, rfl, hT, hb1⟩; obtain ⟨A9, n9, c9, rfl, hn⟩ := hT.form; have HT := Lib.hid hT; have HKz := Lib.hid (HKz.out.keep hb1); have HB := Lib.hid (below_step HB.out hb1); have z0 := HKz.out.cell 0; have z1 := HKz.out.cell 1; have z2 := HKz.out.cell 2; have z3 := HKz.out.cell 3; have zf0 := HKz.out.frozen 0; have zf1 := HKz.out.frozen 1; have zf2 := HKz.out.frozen 2; have zf3 := HKz.out.frozen 3; clear hn hT hb1)
    have hB2 := HKz.out.set4 (.int .i64 ((tI n)).kind) (.int .i64 ((tI n)).int) (.string ⟨((tI n)).name.toArray⟩) (.slice A9 n9 c9)
    have y0 := hB2.cell 0
    have y1 := hB2.cell 1
    have y2 := hB2.cell 2
    have y3 := hB2.cell 3
    refine bodyPost_ret (v := .tuple #[.agg #[.int .i64 ((tI n)).kind, .int .i64 ((tI n)).int, .string ⟨((tI n)).name.toArray⟩, .slice A9 n9 c9], .string ⟨(([] : List UInt8)).toArray⟩]) (by simp [results, Tryz.results34, go_sem, y0, y1, y2, y3]) rfl ?_
    obtain ⟨g1, g2⟩ := fin4 (X := X) HB.out (by omega) HT.out
    exact ⟨_, rfl, g1, g2⟩
set_option maxRecDepth 100000 in
set_option maxHeartbeats 1000000 in
theorem fits_v {X : Nat → Prop} (hX : ∀ k, X k → k < W.heap.size) (h1 : TEx X W u1 t1) : Calls Tryz.prog 16 #[u1] W (R2 X W (fitP t1)) := by
  obtain ⟨A1, n1, c1, rfl, hn1⟩ := h1.form
  have H1 := Lib.hid h1
  have HN1 := Lib.hid hn1
  have HX := Lib.hid hX
  clear h1 hn1 hX
  by_cases hs : t1.parts ≤ 4096
  · rw [fitP_yes hs]
    have hd : sizeP t1.parts = t1.parts := by unfold sizeP; rw [if_pos hs]
    go_enter Tryz.func16, Tryz.ntmps16
    go_upto_region 1 with (fail)
    refine wp_world (fun V => Below W.heap.size W V ∧ Blk V (W.heap.size) 26 #[.int .i64 t1.kind, .int .i64 t1.int, .string ⟨t1.name.toArray⟩, .slice A1 n1 c1] ∧ Blk V (W.heap.size + 1) 26 #[.int .i64 0, .int .i64 0, .string ⟨#[]⟩, .slice none 0 0]) ⟨below_step (below_alloc _ _) (below_alloc _ _), ((Blk.newAt (by first | (with_reducible rfl) | simp)).alloc _), (Blk.newAt (by first | (with_reducible rfl) | simp))⟩ ?_
    rintro V ⟨hb, hq1, hz⟩
    have HB := Lib.hid hb
    have HKq1 := Lib.hid hq1
    have HKz := Lib.hid hz
    have q10 := HKq1.out.cell 0
    have q11 := HKq1.out.cell 1
    have q12 := HKq1.out.cell 2
    have q13 := HKq1.out.cell 3
    have q1f0 := HKq1.out.frozen 0
    have q1f1 := HKq1.out.frozen 1
    have q1f2 := HKq1.out.frozen 2
    have q1f3 := HKq1.out.frozen 3
    have z0 := HKz.out.cell 0
    have z1 := HKz.out.cell 1
    have z2 := HKz.out.cell 2
    have z3 := HKz.out.cell 3
    have zf0 := HKz.out.frozen 0
    have zf1 := HKz.out.frozen 1
    have zf2 := HKz.out.frozen 2
    have zf3 := HKz.out.frozen 3
    clear hb hq1 hz
    go_wp2_with (go_at_call 31; refine (size_v ((H1.out.up (p := W.heap.size + 1) HB.out (by omega)).val)).mono ?_; rintro e V ⟨rfl, hb1⟩; have HKq1 := Lib.hid (HKq1.out.keep hb1); have HKz := Lib.hid (HKz.out.keep hb1); have HB := Lib.hid (below_step HB.out hb1); have q10 := HKq1.out.cell 0; have q11 := HKq1.out.cell 1; have q12 := HKq1.out.cell 2; have q13 := HKq1.out.cell 3; have q1f0 := HKq1.out.frozen 0; have q1f1 := HKq1.out.frozen 1; have q1f2 := HKq1.out.frozen 2; have q1f3 := HKq1.out.frozen 3; have z0 := HKz.out.cell 0; have z1 := HKz.out.cell 1; have z2 := HKz.out.cell 2; have z3 := HKz.out.cell 3; have zf0 := HKz.out.frozen 0; have zf1 := HKz.out.frozen 1; have zf2 := HKz.out.frozen 2; have zf3 := HKz.out.frozen 3; clear hb1)
    have HT := Lib.hid (H1.out.up (p := W.heap.size + 1) HB.out (by omega))
    have hB2 := HKz.out.set4 (.int .i64 (t1).kind) (.int .i64 (t1).int) (.string ⟨(t1).name.toArray⟩) (.slice A1 n1 c1)
    have y0 := hB2.cell 0
    have y1 := hB2.cell 1
    have y2 := hB2.cell 2
    have y3 := hB2.cell 3
    refine bodyPost_ret (v := .tuple #[.agg #[.int .i64 (t1).kind, .int .i64 (t1).int, .string ⟨(t1).name.toArray⟩, .slice A1 n1 c1], .string ⟨(([] : List UInt8)).toArray⟩]) (by simp [results, Tryz.results16, go_sem, y0, y1, y2, y3]) rfl ?_
    obtain ⟨g1, g2⟩ := fin4 (X := X) HB.out (by omega) HT.out
    exact ⟨_, rfl, g1, g2⟩
  · rw [fitP_no hs]
    have hd : sizeP t1.parts = 4097 := by unfold sizeP; rw [if_neg hs]
    go_enter Tryz.func16, Tryz.ntmps16
    go_upto_region 1 with (fail)
    refine wp_world (fun V => Below W.heap.size W V ∧ Blk V (W.heap.size) 26 #[.int .i64 t1.kind, .int .i64 t1.int, .string ⟨t1.name.toArray⟩, .slice A1 n1 c1] ∧ Blk V (W.heap.size + 1) 26 #[.int .i64 0, .int .i64 0, .string ⟨#[]⟩, .slice none 0 0]) ⟨below_step (below_alloc _ _) (below_alloc _ _), ((Blk.newAt (by first | (with_reducible rfl) | simp)).alloc _), (Blk.newAt (by first | (with_reducible rfl) | simp))⟩ ?_
    rintro V ⟨hb, hq1, hz⟩
    have HB := Lib.hid hb
    have HKq1 := Lib.hid hq1
    have HKz := Lib.hid hz
    have q10 := HKq1.out.cell 0
    have q11 := HKq1.out.cell 1
    have q12 := HKq1.out.cell 2
    have q13 := HKq1.out.cell 3
    have q1f0 := HKq1.out.frozen 0
    have q1f1 := HKq1.out.frozen 1
    have q1f2 := HKq1.out.frozen 2
    have q1f3 := HKq1.out.frozen 3
    have z0 := HKz.out.cell 0
    have z1 := HKz.out.cell 1
    have z2 := HKz.out.cell 2
    have z3 := HKz.out.cell 3
    have zf0 := HKz.out.frozen 0
    have zf1 := HKz.out.frozen 1
    have zf2 := HKz.out.frozen 2
    have zf3 := HKz.out.frozen 3
    clear hb hq1 hz
    go_wp2_with (first | (go_at_call 31; refine (size_v ((H1.out.up (p := W.heap.size + 1) HB.out (by omega)).val)).mono ?_; rintro e V ⟨rfl, hb1⟩; have HKq1 := Lib.hid (HKq1.out.keep hb1); have HKz := Lib.hid (HKz.out.keep hb1); have HB := Lib.hid (below_step HB.out hb1); have q10 := HKq1.out.cell 0; have q11 := HKq1.out.cell 1; have q12 := HKq1.out.cell 2; have q13 := HKq1.out.cell 3; have q1f0 := HKq1.out.frozen 0; have q1f1 := HKq1.out.frozen 1; have q1f2 := HKq1.out.frozen 2; have q1f3 := HKq1.out.frozen 3; have z0 := HKz.out.cell 0; have z1 := HKz.out.cell 1; have z2 := HKz.out.cell 2; have z3 := HKz.out.cell 3; have zf0 := HKz.out.frozen 0; have zf1 := HKz.out.frozen 1; have zf2 := HKz.out.frozen 2; have zf3 := HKz.out.frozen 3; clear hb1) | (go_at_call 20; refine (wrong_v (fun k => X k ∨ k = W.heap.size + 1) sLim V).mono ?_; rintro e w1 ⟨v, rfl, hT, hb1⟩; obtain ⟨A9, n9, c9, rfl, hn⟩ := hT.form; have HT := Lib.hid hT; have HKq1 := Lib.hid (HKq1.out.keep hb1); have HKz := Lib.hid (HKz.out.keep hb1); have HB := Lib.hid (below_step HB.out hb1); have q10 := HKq1.out.cell 0; have q11 := HKq1.out.cell 1; have q12 := HKq1.out.cell 2; have q13 := HKq1.out.cell 3; have q1f0 := HKq1.out.frozen 0; have q1f1 := HKq1.out.frozen 1; have q1f2 := HKq1.out.frozen 2; have q1f3 := HKq1.out.frozen 3; have z0 := HKz.out.cell 0; have z1 := HKz.out.cell 1; have z2 := HKz.out.cell 2; have z3 := HKz.out.cell 3; have zf0 := HKz.out.frozen 0; have zf1 := HKz.out.frozen 1; have zf2 := HKz.out.frozen 2; have zf3 := HKz.out.frozen 3; clear hn hT hb1))
    have hB2 := HKz.out.set4 (.int .i64 (tZ).kind) (.int .i64 (tZ).int) (.string ⟨(tZ).name.toArray⟩) (.slice A9 n9 c9)
    have y0 := hB2.cell 0
    have y1 := hB2.cell 1
    have y2 := hB2.cell 2
    have y3 := hB2.cell 3
    refine bodyPost_ret (v := .tuple #[.agg #[.int .i64 (tZ).kind, .int .i64 (tZ).int, .string ⟨(tZ).name.toArray⟩, .slice A9 n9 c9], .string ⟨(sLim).toArray⟩]) (by simp [results, Tryz.results16, go_sem, y0, y1, y2, y3]) rfl ?_
    obtain ⟨g1, g2⟩ := fin4 (X := X) HB.out (by omega) HT.out
    exact ⟨_, rfl, g1, g2⟩
end
end Go.Proofs.YtbpnlpjbjmojfaaGreat
