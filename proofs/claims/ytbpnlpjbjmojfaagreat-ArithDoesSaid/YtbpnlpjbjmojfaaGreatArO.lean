/- Arith (layer 14): the closures about lists. Written by argenn.py. -/
import Derived.Test.YtbpnlpjbjmojfaaGreatArN
import Derived.Test.YtbpnlpjbjmojfaaGreatArL
namespace Go.Proofs.YtbpnlpjbjmojfaaGreat
open Go.RowKit
set_option linter.unusedVariables false
section
variable {W V V' : World} {u u1 u2 : Value} {t t1 t2 : TV}
/-- What a function that makes one term of an owned row, or says why not, leaves: the row may have turned. -/
def R3 (B : Nat) (X : Nat → Prop) (W : World) (r : TV × List UInt8) (e : Ending) (w' : World) : Prop := ∃ u, e = .returned (.tuple #[u, .string ⟨r.2.toArray⟩]) ∧ TEx X w' u r.1 ∧ Below B W w'
theorem blk_keepB {B g ty : Nat} {cs : Array Value} (h : Blk V g ty cs) (hb : Below B V V') (hg : g < B) : Blk V' g ty cs := (hb.block g hg).trans h
theorem EL.no {X : Nat → Prop} {e : Ending} (h : EL X W none e V) : Below W.heap.size W V ∧ e = .returned (.tuple #[.slice none 0 0, .bool false]) := h
theorem EL.yes {X : Nat → Prop} {e : Ending} {l : List TV} (h : EL X W (some l) e V) : Below W.heap.size W V ∧ ∃ v cs, e = .returned (.tuple #[v, .bool true]) ∧ V.ownsRow W.heap.size 26 4 v l.length cs ∧ Std (ers (Xb W.heap.size X) V) cs l := h
theorem own_below {base e z n : Nat} {v : Value} {cs : List Value} (h : V.ownsRow base e z v n cs) (hb : Below V.heap.size V V') : V'.ownsRow base e z v n cs := h.kept (grown_of_below hb none) (by cases v.ownBlock <;> simp)
theorem std_below {X : Nat → Prop} {cs : List Value} {l : List TV} (h : Std (ers X V) cs l) (hb : Below V.heap.size V V') : Std (ers X V') cs l := h.kept (kept_step (Fr.of_below hb X) (fun _ _ h => h) (fun _ _ h => h))

set_option maxRecDepth 100000 in
set_option maxHeartbeats 1000000 in
theorem ones6_v {X : Nat → Prop} (hX : ∀ k, X k → k < W.heap.size) (h1 : TEx X W u1 t1) (hln : t1.items.length ≤ 1000000) : Calls Tryz.prog 44 #[u1] W (R2 X W (fitP (lstT t1.items))) := by
  have HLN := Lib.hid hln
  clear hln
  obtain ⟨A1, n1, c1, rfl, hn1⟩ := h1.form
  have H1 := Lib.hid h1
  have HN1 := Lib.hid hn1
  have HX := Lib.hid hX
  clear h1 hn1 hX
  go_enter Tryz.func44, Tryz.ntmps44
  go_upto_region 1 with (fail)
  refine wp_world (fun V => Below W.heap.size W V ∧ Blk V (W.heap.size) 26 #[.int .i64 t1.kind, .int .i64 t1.int, .string ⟨t1.name.toArray⟩, .slice A1 n1 c1] ∧ Blk V (W.heap.size + 1) 26 #[.int .i64 0, .int .i64 0, .string ⟨#[]⟩, .slice none 0 0]) ⟨below_step (below_alloc _ _) (below_alloc _ _), ((Blk.newAt (by first | (with_reducible rfl) | simp)).alloc _), (Blk.newAt (by first | (with_reducible rfl) | simp))⟩ ?_
  rintro V ⟨hb, hq1, hz⟩
  have HB := Lib.hid hb
  have HKq1 := Lib.hid hq1
  have HKz := Lib.hid hz
  have q10 := HKq1.out.cell 0
  have q11 := HKq1.out.cell 1
  have q12 := HKq1.out.cell 2
  have q13 := HKq1.out.cell 3
  have q1f0 := HKq1.out.frozen 0
  have q1f1 := HKq1.out.frozen 1
  have q1f2 := HKq1.out.frozen 2
  have q1f3 := HKq1.out.frozen 3
  have z0 := HKz.out.cell 0
  have z1 := HKz.out.cell 1
  have z2 := HKz.out.cell 2
  have z3 := HKz.out.cell 3
  have zf0 := HKz.out.frozen 0
  have zf1 := HKz.out.frozen 1
  have zf2 := HKz.out.frozen 2
  have zf3 := HKz.out.frozen 3
  clear hb hq1 hz
  go_wp2_with (first | (go_at_call 45; refine (list_v (X := (fun k => X k ∨ k = W.heap.size + 1)) (w := V) (by rintro k (hk | rfl); exact Nat.lt_of_lt_of_le (HX.out k hk) HB.out.size; exact HKz.out.lt) ((H1.out.up HB.out (by omega)).items) HLN.out).mono ?_; rintro e V ⟨v, rfl, hTc, hb1⟩; obtain ⟨A7, n7, c7, rfl, hn7⟩ := hTc.form; have HTC := Lib.hid hTc; have HKq1 := Lib.hid (HKq1.out.keep hb1); have HKz := Lib.hid (HKz.out.keep hb1); have HB := Lib.hid (below_step HB.out hb1); have q10 := HKq1.out.cell 0; have q11 := HKq1.out.cell 1; have q12 := HKq1.out.cell 2; have q13 := HKq1.out.cell 3; have q1f0 := HKq1.out.frozen 0; have q1f1 := HKq1.out.frozen 1; have q1f2 := HKq1.out.frozen 2; have q1f3 := HKq1.out.frozen 3; have z0 := HKz.out.cell 0; have z1 := HKz.out.cell 1; have z2 := HKz.out.cell 2; have z3 := HKz.out.cell 3; have zf0 := HKz.out.frozen 0; have zf1 := HKz.out.frozen 1; have zf2 := HKz.out.frozen 2; have zf3 := HKz.out.frozen 3; clear hb1 hTc hn7) | (go_at_call 16; refine (fits_v (X := (fun k => X k ∨ k = W.heap.size + 1)) (W := V) (by rintro k (hk | rfl); exact Nat.lt_of_lt_of_le (HX.out k hk) HB.out.size; exact HKz.out.lt) HTC.out).mono ?_; rintro e w1 ⟨v, rfl, hT, hb1⟩; obtain ⟨A9, n9, c9, rfl, hn⟩ := hT.form; have HT := Lib.hid hT; have HKq1 := Lib.hid (HKq1.out.keep hb1); have HKz := Lib.hid (HKz.out.keep hb1); have HB := Lib.hid (below_step HB.out hb1); have q10 := HKq1.out.cell 0; have q11 := HKq1.out.cell 1; have q12 := HKq1.out.cell 2; have q13 := HKq1.out.cell 3; have q1f0 := HKq1.out.frozen 0; have q1f1 := HKq1.out.frozen 1; have q1f2 := HKq1.out.frozen 2; have q1f3 := HKq1.out.frozen 3; have z0 := HKz.out.cell 0; have z1 := HKz.out.cell 1; have z2 := HKz.out.cell 2; have z3 := HKz.out.cell 3; have zf0 := HKz.out.frozen 0; have zf1 := HKz.out.frozen 1; have zf2 := HKz.out.frozen 2; have zf3 := HKz.out.frozen 3; clear hn hT hb1))
  have hB2 := HKz.out.set4 (.int .i64 ((fitP (lstT t1.items)).1).kind) (.int .i64 ((fitP (lstT t1.items)).1).int) (.string ⟨((fitP (lstT t1.items)).1).name.toArray⟩) (.slice A9 n9 c9)
  have y0 := hB2.cell 0
  have y1 := hB2.cell 1
  have y2 := hB2.cell 2
  have y3 := hB2.cell 3
  refine bodyPost_ret (v := .tuple #[.agg #[.int .i64 ((fitP (lstT t1.items)).1).kind, .int .i64 ((fitP (lstT t1.items)).1).int, .string ⟨((fitP (lstT t1.items)).1).name.toArray⟩, .slice A9 n9 c9], .string ⟨((fitP (lstT t1.items)).2).toArray⟩]) (by simp [results, Tryz.results44, go_sem, y0, y1, y2, y3]) rfl ?_
  obtain ⟨g1, g2⟩ := fin4 (X := X) HB.out (by omega) HT.out
  exact ⟨_, rfl, g1, g2⟩
set_option maxRecDepth 100000 in
set_option maxHeartbeats 1000000 in
theorem ones7_v {X : Nat → Prop} (hX : ∀ k, X k → k < W.heap.size) {l : List TV} (h1 : LEx X W u1 l) : Calls Tryz.prog 47 #[u1] W (R2 X W (tI (l.length : Nat), [])) := by
  obtain ⟨A1, n1, c1, rfl, hn1, _, _⟩ := h1.form
  have HX := Lib.hid hX
  rw [hn1]
  clear hX h1 hn1
  go_enter Tryz.func47, Tryz.ntmps47
  go_upto_region 1 with (fail)
  refine wp_world (fun V => Below W.heap.size W V ∧ Blk V (W.heap.size) 26 #[.int .i64 0, .int .i64 0, .string ⟨#[]⟩, .slice none 0 0]) ⟨below_alloc _ _, (Blk.newAt (by first | (with_reducible rfl) | simp))⟩ ?_
  rintro V ⟨hb, hz⟩
  have HB := Lib.hid hb
  have HKz := Lib.hid hz
  have z0 := HKz.out.cell 0
  have z1 := HKz.out.cell 1
  have z2 := HKz.out.cell 2
  have z3 := HKz.out.cell 3
  have zf0 := HKz.out.frozen 0
  have zf1 := HKz.out.frozen 1
  have zf2 := HKz.out.frozen 2
  have zf3 := HKz.out.frozen 3
  clear hb hz
  go_wp2_with (go_at_call 43; refine (r1_int (fun k => X k ∨ k = W.heap.size) (n1 : Nat) V).mono ?_; rintro e w1 ⟨v, rfl, hT, hb1⟩; obtain ⟨A9, n9, c9, rfl, hn⟩ := hT.form; have HT := Lib.hid hT; have HKz := Lib.hid (HKz.out.keep hb1); have HB := Lib.hid (below_step HB.out hb1); have z0 := HKz.out.cell 0; have z1 := HKz.out.cell 1; have z2 := HKz.out.cell 2; have z3 := HKz.out.cell 3; have zf0 := HKz.out.frozen 0; have zf1 := HKz.out.frozen 1; have zf2 := HKz.out.frozen 2; have zf3 := HKz.out.frozen 3; clear hn hT hb1)
  have hB2 := HKz.out.set4 (.int .i64 ((tI (n1 : Nat))).kind) (.int .i64 ((tI (n1 : Nat))).int) (.string ⟨((tI (n1 : Nat))).name.toArray⟩) (.slice A9 n9 c9)
  have y0 := hB2.cell 0
  have y1 := hB2.cell 1
  have y2 := hB2.cell 2
  have y3 := hB2.cell 3
  refine bodyPost_ret (v := .tuple #[.agg #[.int .i64 ((tI (n1 : Nat))).kind, .int .i64 ((tI (n1 : Nat))).int, .string ⟨((tI (n1 : Nat))).name.toArray⟩, .slice A9 n9 c9], .string ⟨(([] : List UInt8)).toArray⟩]) (by simp [results, Tryz.results47, go_sem, y0, y1, y2, y3]) rfl ?_
  obtain ⟨g1, g2⟩ := fin4 (X := X) HB.out (by omega) HT.out
  exact ⟨_, rfl, g1, g2⟩
set_option maxRecDepth 100000 in
set_option maxHeartbeats 1000000 in
theorem ones8_v {X : Nat → Prop} (hX : ∀ k, X k → k < W.heap.size) {l : List TV} (h1 : LEx X W u1 l) (hln : l.length ≤ 1000000) : Calls Tryz.prog 48 #[u1] W (R2 X W (tT l, [])) := by
  have H1 := Lib.hid h1
  obtain ⟨A1, n1, c1, rfl, hn1, _, _⟩ := h1.form
  have HX := Lib.hid hX
  have HLN := Lib.hid hln
  clear hX h1 hn1 hln
  go_enter Tryz.func48, Tryz.ntmps48
  go_upto_region 1 with (fail)
  refine wp_world (fun V => Below W.heap.size W V ∧ Blk V (W.heap.size) 26 #[.int .i64 0, .int .i64 0, .string ⟨#[]⟩, .slice none 0 0]) ⟨below_alloc _ _, (Blk.newAt (by first | (with_reducible rfl) | simp))⟩ ?_
  rintro V ⟨hb, hz⟩
  have HB := Lib.hid hb
  have HKz := Lib.hid hz
  have z0 := HKz.out.cell 0
  have z1 := HKz.out.cell 1
  have z2 := HKz.out.cell 2
  have z3 := HKz.out.cell 3
  have zf0 := HKz.out.frozen 0
  have zf1 := HKz.out.frozen 1
  have zf2 := HKz.out.frozen 2
  have zf3 := HKz.out.frozen 3
  clear hb hz
  go_wp2_with (go_at_call 17; refine (ptuple_v (X := (fun k => X k ∨ k = W.heap.size)) (W := V) (by rintro k (hk | rfl); exact Nat.lt_of_lt_of_le (HX.out k hk) HB.out.size; exact HKz.out.lt) (H1.out.up HB.out (by omega)) HLN.out).mono ?_; rintro e w1 ⟨v, rfl, hT, hb1⟩; obtain ⟨A9, n9, c9, rfl, hn⟩ := hT.form; have HT := Lib.hid hT; have HKz := Lib.hid (HKz.out.keep hb1); have HB := Lib.hid (below_step HB.out hb1); have z0 := HKz.out.cell 0; have z1 := HKz.out.cell 1; have z2 := HKz.out.cell 2; have z3 := HKz.out.cell 3; have zf0 := HKz.out.frozen 0; have zf1 := HKz.out.frozen 1; have zf2 := HKz.out.frozen 2; have zf3 := HKz.out.frozen 3; clear hn hT hb1)
  have hB2 := HKz.out.set4 (.int .i64 ((tT l)).kind) (.int .i64 ((tT l)).int) (.string ⟨((tT l)).name.toArray⟩) (.slice A9 n9 c9)
  have y0 := hB2.cell 0
  have y1 := hB2.cell 1
  have y2 := hB2.cell 2
  have y3 := hB2.cell 3
  refine bodyPost_ret (v := .tuple #[.agg #[.int .i64 ((tT l)).kind, .int .i64 ((tT l)).int, .string ⟨((tT l)).name.toArray⟩, .slice A9 n9 c9], .string ⟨(([] : List UInt8)).toArray⟩]) (by simp [results, Tryz.results48, go_sem, y0, y1, y2, y3]) rfl ?_
  obtain ⟨g1, g2⟩ := fin4 (X := X) HB.out (by omega) HT.out
  exact ⟨_, rfl, g1, g2⟩
set_option maxRecDepth 100000 in
set_option maxHeartbeats 1000000 in
theorem ones9_v {X : Nat → Prop} {B : Nat} {cs : List Value} {l : List TV} (ho : W.ownsRow B 26 4 u1 l.length cs) (hX : ∀ k, X k → k < B) (hs : Std (ers (Xb B X) W) cs l) (hBW : B ≤ W.heap.size) (hln : l.length ≤ 1000000) : Calls Tryz.prog 49 #[u1] W (R3 B X W (lstT l.reverse, [])) := by
  obtain ⟨A1, c1, rfl, hnc, hcm⟩ := own_slice ho
  have HX := Lib.hid hX
  have HO0 := Lib.hid ho
  have HS0 := Lib.hid hs
  have HLN := Lib.hid hln
  have HBW := Lib.hid hBW
  clear hX ho hs hln hBW
  go_enter Tryz.func49, Tryz.ntmps49
  go_upto_region 1 with (fail)
  refine wp_world (fun V => Below W.heap.size W V ∧ Blk V (W.heap.size) 26 #[.int .i64 0, .int .i64 0, .string ⟨#[]⟩, .slice none 0 0]) ⟨below_alloc _ _, (Blk.newAt (by first | (with_reducible rfl) | simp))⟩ ?_
  rintro V ⟨hb, hz⟩
  have HB := Lib.hid hb
  have HKz := Lib.hid hz
  have z0 := HKz.out.cell 0
  have z1 := HKz.out.cell 1
  have z2 := HKz.out.cell 2
  have z3 := HKz.out.cell 3
  have zf0 := HKz.out.frozen 0
  have zf1 := HKz.out.frozen 1
  have zf2 := HKz.out.frozen 2
  have zf3 := HKz.out.frozen 3
  clear hb hz
  have HO := Lib.hid (own_below HO0.out HB.out)
  have HS := Lib.hid (std_below HS0.out HB.out)
  have HNE : Hid (some W.heap.size ≠ (Value.slice A1 l.length c1).ownBlock) := fun e => by have := (HO0.out.lt _ e.symm).2; omega
  have HRV := Lib.hid (reverse_v (Y := fun k => X k ∨ k = W.heap.size) HO.out (by rintro k (hk | rfl); exact .inl ⟨hk, HX.out k hk⟩; exact .inr ⟨HBW.out, HNE.out⟩) HS.out HLN.out)
  go_wp2_with (first | (go_at_call 50; refine HRV.out.mono ?_; rintro e V2 ⟨rfl, hL, hfr⟩; have HL := Lib.hid hL; have HKz := Lib.hid (hfr.blk HKz.out (fun h => HNE.out h.2)); have HB2 := Lib.hid ((HB.out.mono HBW.out).trans (hfr.below (Nat.le_trans HBW.out HB.out.size) (fun k hk => hk.1))); have HBS := Lib.hid hfr.size; have z0 := HKz.out.cell 0; have z1 := HKz.out.cell 1; have z2 := HKz.out.cell 2; have z3 := HKz.out.cell 3; have zf0 := HKz.out.frozen 0; have zf1 := HKz.out.frozen 1; have zf2 := HKz.out.frozen 2; have zf3 := HKz.out.frozen 3; clear hL hfr) | (go_at_call 45; refine (list_v (X := fun k => X k ∨ k = W.heap.size) (w := V2) (by rintro k (hk | rfl); exact Nat.lt_of_lt_of_le (Nat.lt_of_lt_of_le (HX.out k hk) HBW.out) HB2.out.size; exact HKz.out.lt) HL.out (by rw [List.length_reverse]; exact HLN.out)).mono ?_; rintro e w1 ⟨v, rfl, hT, hb1⟩; obtain ⟨A9, n9, c9, rfl, hn⟩ := hT.form; have HT := Lib.hid hT; have HKz := Lib.hid (HKz.out.keep hb1); have HB3 := Lib.hid (HB2.out.trans (hb1.mono (by have := HB2.out.size; have := HB.out.size; have := HBW.out; have := HBS.out; omega))); have z0 := HKz.out.cell 0; have z1 := HKz.out.cell 1; have z2 := HKz.out.cell 2; have z3 := HKz.out.cell 3; have zf0 := HKz.out.frozen 0; have zf1 := HKz.out.frozen 1; have zf2 := HKz.out.frozen 2; have zf3 := HKz.out.frozen 3; clear hn hT hb1))
  have hB2 := HKz.out.set4 (.int .i64 (lstT l.reverse).kind) (.int .i64 (lstT l.reverse).int) (.string ⟨(lstT l.reverse).name.toArray⟩) (.slice A9 n9 c9)
  have y0 := hB2.cell 0
  have y1 := hB2.cell 1
  have y2 := hB2.cell 2
  have y3 := hB2.cell 3
  refine bodyPost_ret (v := .tuple #[.agg #[.int .i64 (lstT l.reverse).kind, .int .i64 (lstT l.reverse).int, .string ⟨(lstT l.reverse).name.toArray⟩, .slice A9 n9 c9], .string ⟨([] : List UInt8).toArray⟩]) (by simp [results, Tryz.results49, go_sem, y0, y1, y2, y3]) rfl ?_
  have hfr := fr_set4 w1 W.heap.size (.int .i64 (lstT l.reverse).kind) (.int .i64 (lstT l.reverse).int) (.string ⟨(lstT l.reverse).name.toArray⟩) (.slice A9 n9 c9)
  exact ⟨_, rfl, (HT.out.step hfr (fun k _ h => .inr h)).weak (fun k _ h => .inl h), HB3.out.trans (hfr.below (Nat.le_trans HBW.out (Nat.le_of_lt HKz.out.lt)) (fun k hk => by rw [hk]; exact HBW.out))⟩
set_option maxRecDepth 100000 in
set_option maxHeartbeats 1000000 in
theorem list1_v {X : Nat → Prop} (hX : ∀ k, X k → k < W.heap.size) (h1 : TEx X W u1 t1) {fid : Nat} {caps : Array Value} {g : Nat} (eg : ∀ args w, (callFunc fid args).run Tryz.prog w = .ok (.enter fid args) w) (hg : Blk W g 70 #[.func (.func fid) #[] caps]) (hp : t1.parts ≤ 1000000) {f : List TV → TV × List UInt8} (hf : ∀ l, elsT t1 = some l → ∀ V B v cs X', Below W.heap.size W V → W.heap.size ≤ B → B ≤ V.heap.size → (∀ k, X' k → k < B) → V.ownsRow B 26 4 v l.length cs → Std (ers (Xb B X') V) cs l → Calls Tryz.prog fid (#[v] ++ caps) V (R3 B X' V (f l))) :
    Calls Tryz.prog 91 #[u1, .pointer (some ⟨g, 0, none⟩)] W (R2 X W ((elsT t1).elim (tZ, sArg) f)) := by
  obtain ⟨A1, n1, c1, rfl, hn1⟩ := h1.form
  have H1 := Lib.hid h1
  have HN1 := Lib.hid hn1
  have HX := Lib.hid hX
  clear h1 hn1 hX
  have HKg := Lib.hid hg
  have HF := Lib.hid hf
  have HP := Lib.hid hp
  clear hg hf hp
  cases hE : elsT t1 with
  | none =>
    have HE := Lib.hid hE
    clear hE
    go_enter Tryz.func91, Tryz.ntmps91
    go_upto_region 1 with (fail)
    refine wp_world (fun V => Below W.heap.size W V ∧ Blk V (W.heap.size) 26 #[.int .i64 t1.kind, .int .i64 t1.int, .string ⟨t1.name.toArray⟩, .slice A1 n1 c1] ∧ Blk V (W.heap.size + 1) 26 #[.int .i64 0, .int .i64 0, .string ⟨#[]⟩, .slice none 0 0] ∧ Blk V (g) 70 #[.func (.func fid) #[] caps]) ⟨below_step (below_alloc _ _) (below_alloc _ _), ((Blk.newAt (by first | (with_reducible rfl) | simp)).alloc _), (Blk.newAt (by first | (with_reducible rfl) | simp)), ((HKg.out.alloc _).alloc _)⟩ ?_
    rintro V ⟨hb, hq1, hz, hg⟩
    have HB := Lib.hid hb
    have HKq1 := Lib.hid hq1
    have HKz := Lib.hid hz
    have HKg := Lib.hid hg
    have q10 := HKq1.out.cell 0
    have q11 := HKq1.out.cell 1
    have q12 := HKq1.out.cell 2
    have q13 := HKq1.out.cell 3
    have q1f0 := HKq1.out.frozen 0
    have q1f1 := HKq1.out.frozen 1
    have q1f2 := HKq1.out.frozen 2
    have q1f3 := HKq1.out.frozen 3
    have z0 := HKz.out.cell 0
    have z1 := HKz.out.cell 1
    have z2 := HKz.out.cell 2
    have z3 := HKz.out.cell 3
    have zf0 := HKz.out.frozen 0
    have zf1 := HKz.out.frozen 1
    have zf2 := HKz.out.frozen 2
    have zf3 := HKz.out.frozen 3
    have g0 := HKg.out.cell 0
    have gf0 := HKg.out.frozen 0
    clear hb hq1 hz hg
    have HXP : Hid (∀ k, (fun k => X k ∨ k = W.heap.size + 1) k → k < V.heap.size) := (by rintro k (hk | rfl); exact Nat.lt_of_lt_of_le (HX.out k hk) HB.out.size; exact HKz.out.lt)
    have HZL := Lib.hid HKz.out.lt
    go_wp2_with (first | (go_at_call 72; refine (elements_v (X := (fun k => X k ∨ k = W.heap.size + 1)) (W := V) HXP.out (H1.out.up HB.out (by omega)) HP.out).mono ?_; rintro e V2 hm; rw [HE.out] at hm; obtain ⟨hb1, rfl⟩ := hm.no; have HKq1 := Lib.hid (HKq1.out.keep hb1); have HKz := Lib.hid (HKz.out.keep hb1); have HKg := Lib.hid (HKg.out.keep hb1); have HB := Lib.hid (below_step HB.out hb1); have q10 := HKq1.out.cell 0; have q11 := HKq1.out.cell 1; have q12 := HKq1.out.cell 2; have q13 := HKq1.out.cell 3; have q1f0 := HKq1.out.frozen 0; have q1f1 := HKq1.out.frozen 1; have q1f2 := HKq1.out.frozen 2; have q1f3 := HKq1.out.frozen 3; have z0 := HKz.out.cell 0; have z1 := HKz.out.cell 1; have z2 := HKz.out.cell 2; have z3 := HKz.out.cell 3; have zf0 := HKz.out.frozen 0; have zf1 := HKz.out.frozen 1; have zf2 := HKz.out.frozen 2; have zf3 := HKz.out.frozen 3; have g0 := HKg.out.cell 0; have gf0 := HKg.out.frozen 0; clear hb1) | (go_at_call 20; refine (wrong_v (fun k => X k ∨ k = W.heap.size + 1) sArg V2).mono ?_; rintro e w1 ⟨v, rfl, hT, hb1⟩; obtain ⟨A9, n9, c9, rfl, hn⟩ := hT.form; have HT := Lib.hid hT; have HKq1 := Lib.hid (HKq1.out.keep hb1); have HKz := Lib.hid (HKz.out.keep hb1); have HKg := Lib.hid (HKg.out.keep hb1); have HB := Lib.hid (below_step HB.out hb1); have q10 := HKq1.out.cell 0; have q11 := HKq1.out.cell 1; have q12 := HKq1.out.cell 2; have q13 := HKq1.out.cell 3; have q1f0 := HKq1.out.frozen 0; have q1f1 := HKq1.out.frozen 1; have q1f2 := HKq1.out.frozen 2; have q1f3 := HKq1.out.frozen 3; have z0 := HKz.out.cell 0; have z1 := HKz.out.cell 1; have z2 := HKz.out.cell 2; have z3 := HKz.out.cell 3; have zf0 := HKz.out.frozen 0; have zf1 := HKz.out.frozen 1; have zf2 := HKz.out.frozen 2; have zf3 := HKz.out.frozen 3; have g0 := HKg.out.cell 0; have gf0 := HKg.out.frozen 0; clear hn hT hb1))
    have hB2 := HKz.out.set4 (.int .i64 (tZ).kind) (.int .i64 (tZ).int) (.string ⟨(tZ).name.toArray⟩) (.slice A9 n9 c9)
    have y0 := hB2.cell 0
    have y1 := hB2.cell 1
    have y2 := hB2.cell 2
    have y3 := hB2.cell 3
    refine bodyPost_ret (v := .tuple #[.agg #[.int .i64 (tZ).kind, .int .i64 (tZ).int, .string ⟨(tZ).name.toArray⟩, .slice A9 n9 c9], .string ⟨(sArg).toArray⟩]) (by simp [results, Tryz.results91, go_sem, y0, y1, y2, y3]) rfl ?_
    obtain ⟨g1, g2⟩ := fin4 (X := X) HB.out (by omega) HT.out
    exact ⟨_, rfl, g1, g2⟩
  | some l =>
    have HE := Lib.hid hE
    clear hE
    go_enter Tryz.func91, Tryz.ntmps91
    go_upto_region 1 with (fail)
    refine wp_world (fun V => Below W.heap.size W V ∧ Blk V (W.heap.size) 26 #[.int .i64 t1.kind, .int .i64 t1.int, .string ⟨t1.name.toArray⟩, .slice A1 n1 c1] ∧ Blk V (W.heap.size + 1) 26 #[.int .i64 0, .int .i64 0, .string ⟨#[]⟩, .slice none 0 0] ∧ Blk V (g) 70 #[.func (.func fid) #[] caps]) ⟨below_step (below_alloc _ _) (below_alloc _ _), ((Blk.newAt (by first | (with_reducible rfl) | simp)).alloc _), (Blk.newAt (by first | (with_reducible rfl) | simp)), ((HKg.out.alloc _).alloc _)⟩ ?_
    rintro V ⟨hb, hq1, hz, hg⟩
    have HB := Lib.hid hb
    have HKq1 := Lib.hid hq1
    have HKz := Lib.hid hz
    have HKg := Lib.hid hg
    have q10 := HKq1.out.cell 0
    have q11 := HKq1.out.cell 1
    have q12 := HKq1.out.cell 2
    have q13 := HKq1.out.cell 3
    have q1f0 := HKq1.out.frozen 0
    have q1f1 := HKq1.out.frozen 1
    have q1f2 := HKq1.out.frozen 2
    have q1f3 := HKq1.out.frozen 3
    have z0 := HKz.out.cell 0
    have z1 := HKz.out.cell 1
    have z2 := HKz.out.cell 2
    have z3 := HKz.out.cell 3
    have zf0 := HKz.out.frozen 0
    have zf1 := HKz.out.frozen 1
    have zf2 := HKz.out.frozen 2
    have zf3 := HKz.out.frozen 3
    have g0 := HKg.out.cell 0
    have gf0 := HKg.out.frozen 0
    clear hb hq1 hz hg
    have HXP : Hid (∀ k, (fun k => X k ∨ k = W.heap.size + 1) k → k < V.heap.size) := (by rintro k (hk | rfl); exact Nat.lt_of_lt_of_le (HX.out k hk) HB.out.size; exact HKz.out.lt)
    have HZL := Lib.hid HKz.out.lt
    go_wp2_with (first | (go_at_call 72; refine (elements_v (X := (fun k => X k ∨ k = W.heap.size + 1)) (W := V) HXP.out (H1.out.up HB.out (by omega)) HP.out).mono ?_; rintro e V2 hm; rw [HE.out] at hm; obtain ⟨hb1, v, cs, rfl, ho, hs⟩ := hm.yes; have HO := Lib.hid ho; have HS := Lib.hid hs; have HVB := Lib.hid HB.out.size; have HBE := Lib.hid hb1; have HKq1 := Lib.hid (HKq1.out.keep hb1); have HKz := Lib.hid (HKz.out.keep hb1); have HKg := Lib.hid (HKg.out.keep hb1); have HB := Lib.hid (below_step HB.out hb1); have q10 := HKq1.out.cell 0; have q11 := HKq1.out.cell 1; have q12 := HKq1.out.cell 2; have q13 := HKq1.out.cell 3; have q1f0 := HKq1.out.frozen 0; have q1f1 := HKq1.out.frozen 1; have q1f2 := HKq1.out.frozen 2; have q1f3 := HKq1.out.frozen 3; have z0 := HKz.out.cell 0; have z1 := HKz.out.cell 1; have z2 := HKz.out.cell 2; have z3 := HKz.out.cell 3; have zf0 := HKz.out.frozen 0; have zf1 := HKz.out.frozen 1; have zf2 := HKz.out.frozen 2; have zf3 := HKz.out.frozen 3; have g0 := HKg.out.cell 0; have gf0 := HKg.out.frozen 0; clear hb1 ho hs) | (refine (HF.out l HE.out V2 V.heap.size v cs (fun k => X k ∨ k = W.heap.size + 1) HB.out HVB.out HBE.out.size HXP.out HO.out HS.out).mono ?_; rintro e w1 ⟨u, rfl, hT, hb1⟩; obtain ⟨A9, n9, c9, rfl, hn⟩ := hT.form; have HT := Lib.hid hT; have HKz := Lib.hid (blk_keepB HKz.out hb1 HZL.out); have HB := Lib.hid (HB.out.trans (hb1.mono HVB.out)); have z0 := HKz.out.cell 0; have z1 := HKz.out.cell 1; have z2 := HKz.out.cell 2; have z3 := HKz.out.cell 3; have zf0 := HKz.out.frozen 0; have zf1 := HKz.out.frozen 1; have zf2 := HKz.out.frozen 2; have zf3 := HKz.out.frozen 3; clear hn hT hb1))
    have hB2 := HKz.out.set4 (.int .i64 ((f l).1).kind) (.int .i64 ((f l).1).int) (.string ⟨((f l).1).name.toArray⟩) (.slice A9 n9 c9)
    have y0 := hB2.cell 0
    have y1 := hB2.cell 1
    have y2 := hB2.cell 2
    have y3 := hB2.cell 3
    refine bodyPost_ret (v := .tuple #[.agg #[.int .i64 ((f l).1).kind, .int .i64 ((f l).1).int, .string ⟨((f l).1).name.toArray⟩, .slice A9 n9 c9], .string ⟨((f l).2).toArray⟩]) (by simp [results, Tryz.results91, go_sem, y0, y1, y2, y3]) rfl ?_
    obtain ⟨g1, g2⟩ := fin4 (X := X) HB.out (by omega) HT.out
    exact ⟨_, rfl, g1, g2⟩
set_option maxRecDepth 100000 in
set_option maxHeartbeats 1000000 in
theorem twos15_v {X : Nat → Prop} (hX : ∀ k, X k → k < W.heap.size) (h1 : TEx X W u1 t1) (h2 : TEx X W u2 t2) (hp : t1.parts ≤ 1000000) : Calls Tryz.prog 71 #[u1, u2] W (R2 X W ((elsT t1).elim (tZ, sArg) (fun l => fitP (lstE l t2)))) := by
  obtain ⟨A1, n1, c1, rfl, hn1⟩ := h1.form
  have H1 := Lib.hid h1
  have HN1 := Lib.hid hn1
  obtain ⟨A2, n2, c2, rfl, hn2⟩ := h2.form
  have H2 := Lib.hid h2
  have HN2 := Lib.hid hn2
  have HX := Lib.hid hX
  clear h1 hn1 h2 hn2 hX
  have HP := Lib.hid hp
  clear hp
  cases hE : elsT t1 with
  | none =>
    have HE := Lib.hid hE
    clear hE
    go_enter Tryz.func71, Tryz.ntmps71
    go_upto_region 1 with (fail)
    refine wp_world (fun V => Below W.heap.size W V ∧ Blk V (W.heap.size) 26 #[.int .i64 t1.kind, .int .i64 t1.int, .string ⟨t1.name.toArray⟩, .slice A1 n1 c1] ∧ Blk V (W.heap.size + 1) 26 #[.int .i64 t2.kind, .int .i64 t2.int, .string ⟨t2.name.toArray⟩, .slice A2 n2 c2] ∧ Blk V (W.heap.size + 1 + 1) 26 #[.int .i64 0, .int .i64 0, .string ⟨#[]⟩, .slice none 0 0]) ⟨below_step (below_step (below_alloc _ _) (below_alloc _ _)) (below_alloc _ _), (((Blk.newAt (by first | (with_reducible rfl) | simp)).alloc _).alloc _), ((Blk.newAt (by first | (with_reducible rfl) | simp)).alloc _), (Blk.newAt (by first | (with_reducible rfl) | simp))⟩ ?_
    rintro V ⟨hb, hq1, hq2, hz⟩
    have HB := Lib.hid hb
    have HKq1 := Lib.hid hq1
    have HKq2 := Lib.hid hq2
    have HKz := Lib.hid hz
    have q10 := HKq1.out.cell 0
    have q11 := HKq1.out.cell 1
    have q12 := HKq1.out.cell 2
    have q13 := HKq1.out.cell 3
    have q1f0 := HKq1.out.frozen 0
    have q1f1 := HKq1.out.frozen 1
    have q1f2 := HKq1.out.frozen 2
    have q1f3 := HKq1.out.frozen 3
    have q20 := HKq2.out.cell 0
    have q21 := HKq2.out.cell 1
    have q22 := HKq2.out.cell 2
    have q23 := HKq2.out.cell 3
    have q2f0 := HKq2.out.frozen 0
    have q2f1 := HKq2.out.frozen 1
    have q2f2 := HKq2.out.frozen 2
    have q2f3 := HKq2.out.frozen 3
    have z0 := HKz.out.cell 0
    have z1 := HKz.out.cell 1
    have z2 := HKz.out.cell 2
    have z3 := HKz.out.cell 3
    have zf0 := HKz.out.frozen 0
    have zf1 := HKz.out.frozen 1
    have zf2 := HKz.out.frozen 2
    have zf3 := HKz.out.frozen 3
    clear hb hq1 hq2 hz
    have HXP : Hid (∀ k, (fun k => X k ∨ k = W.heap.size + 1 + 1) k → k < V.heap.size) := (by rintro k (hk | rfl); exact Nat.lt_of_lt_of_le (HX.out k hk) HB.out.size; exact HKz.out.lt)
    go_wp2_with (first | (go_at_call 72; refine (elements_v (X := (fun k => X k ∨ k = W.heap.size + 1 + 1)) (W := V) HXP.out (H1.out.up HB.out (by omega)) HP.out).mono ?_; rintro e V2 hm; rw [HE.out] at hm; obtain ⟨hb1, rfl⟩ := hm.no; have HKq1 := Lib.hid (HKq1.out.keep hb1); have HKq2 := Lib.hid (HKq2.out.keep hb1); have HKz := Lib.hid (HKz.out.keep hb1); have HB := Lib.hid (below_step HB.out hb1); have q10 := HKq1.out.cell 0; have q11 := HKq1.out.cell 1; have q12 := HKq1.out.cell 2; have q13 := HKq1.out.cell 3; have q1f0 := HKq1.out.frozen 0; have q1f1 := HKq1.out.frozen 1; have q1f2 := HKq1.out.frozen 2; have q1f3 := HKq1.out.frozen 3; have q20 := HKq2.out.cell 0; have q21 := HKq2.out.cell 1; have q22 := HKq2.out.cell 2; have q23 := HKq2.out.cell 3; have q2f0 := HKq2.out.frozen 0; have q2f1 := HKq2.out.frozen 1; have q2f2 := HKq2.out.frozen 2; have q2f3 := HKq2.out.frozen 3; have z0 := HKz.out.cell 0; have z1 := HKz.out.cell 1; have z2 := HKz.out.cell 2; have z3 := HKz.out.cell 3; have zf0 := HKz.out.frozen 0; have zf1 := HKz.out.frozen 1; have zf2 := HKz.out.frozen 2; have zf3 := HKz.out.frozen 3; clear hb1) | (go_at_call 20; refine (wrong_v (fun k => X k ∨ k = W.heap.size + 1 + 1) sArg V2).mono ?_; rintro e w1 ⟨v, rfl, hT, hb1⟩; obtain ⟨A9, n9, c9, rfl, hn⟩ := hT.form; have HT := Lib.hid hT; have HKq1 := Lib.hid (HKq1.out.keep hb1); have HKq2 := Lib.hid (HKq2.out.keep hb1); have HKz := Lib.hid (HKz.out.keep hb1); have HB := Lib.hid (below_step HB.out hb1); have q10 := HKq1.out.cell 0; have q11 := HKq1.out.cell 1; have q12 := HKq1.out.cell 2; have q13 := HKq1.out.cell 3; have q1f0 := HKq1.out.frozen 0; have q1f1 := HKq1.out.frozen 1; have q1f2 := HKq1.out.frozen 2; have q1f3 := HKq1.out.frozen 3; have q20 := HKq2.out.cell 0; have q21 := HKq2.out.cell 1; have q22 := HKq2.out.cell 2; have q23 := HKq2.out.cell 3; have q2f0 := HKq2.out.frozen 0; have q2f1 := HKq2.out.frozen 1; have q2f2 := HKq2.out.frozen 2; have q2f3 := HKq2.out.frozen 3; have z0 := HKz.out.cell 0; have z1 := HKz.out.cell 1; have z2 := HKz.out.cell 2; have z3 := HKz.out.cell 3; have zf0 := HKz.out.frozen 0; have zf1 := HKz.out.frozen 1; have zf2 := HKz.out.frozen 2; have zf3 := HKz.out.frozen 3; clear hn hT hb1))
    have hB2 := HKz.out.set4 (.int .i64 (tZ).kind) (.int .i64 (tZ).int) (.string ⟨(tZ).name.toArray⟩) (.slice A9 n9 c9)
    have y0 := hB2.cell 0
    have y1 := hB2.cell 1
    have y2 := hB2.cell 2
    have y3 := hB2.cell 3
    refine bodyPost_ret (v := .tuple #[.agg #[.int .i64 (tZ).kind, .int .i64 (tZ).int, .string ⟨(tZ).name.toArray⟩, .slice A9 n9 c9], .string ⟨(sArg).toArray⟩]) (by simp [results, Tryz.results71, go_sem, y0, y1, y2, y3]) rfl ?_
    obtain ⟨g1, g2⟩ := fin4 (X := X) HB.out (by omega) HT.out
    exact ⟨_, rfl, g1, g2⟩
  | some l =>
    have HLN : Hid (l.length ≤ 1000000) := by have := (elsT_len t1.parts t1 l (Nat.le_refl _) hE).1; have := HP.out; show l.length ≤ 1000000; omega
    have HE := Lib.hid hE
    clear hE
    go_enter Tryz.func71, Tryz.ntmps71
    go_upto_region 1 with (fail)
    refine wp_world (fun V => Below W.heap.size W V ∧ Blk V (W.heap.size) 26 #[.int .i64 t1.kind, .int .i64 t1.int, .string ⟨t1.name.toArray⟩, .slice A1 n1 c1] ∧ Blk V (W.heap.size + 1) 26 #[.int .i64 t2.kind, .int .i64 t2.int, .string ⟨t2.name.toArray⟩, .slice A2 n2 c2] ∧ Blk V (W.heap.size + 1 + 1) 26 #[.int .i64 0, .int .i64 0, .string ⟨#[]⟩, .slice none 0 0]) ⟨below_step (below_step (below_alloc _ _) (below_alloc _ _)) (below_alloc _ _), (((Blk.newAt (by first | (with_reducible rfl) | simp)).alloc _).alloc _), ((Blk.newAt (by first | (with_reducible rfl) | simp)).alloc _), (Blk.newAt (by first | (with_reducible rfl) | simp))⟩ ?_
    rintro V ⟨hb, hq1, hq2, hz⟩
    have HB := Lib.hid hb
    have HKq1 := Lib.hid hq1
    have HKq2 := Lib.hid hq2
    have HKz := Lib.hid hz
    have q10 := HKq1.out.cell 0
    have q11 := HKq1.out.cell 1
    have q12 := HKq1.out.cell 2
    have q13 := HKq1.out.cell 3
    have q1f0 := HKq1.out.frozen 0
    have q1f1 := HKq1.out.frozen 1
    have q1f2 := HKq1.out.frozen 2
    have q1f3 := HKq1.out.frozen 3
    have q20 := HKq2.out.cell 0
    have q21 := HKq2.out.cell 1
    have q22 := HKq2.out.cell 2
    have q23 := HKq2.out.cell 3
    have q2f0 := HKq2.out.frozen 0
    have q2f1 := HKq2.out.frozen 1
    have q2f2 := HKq2.out.frozen 2
    have q2f3 := HKq2.out.frozen 3
    have z0 := HKz.out.cell 0
    have z1 := HKz.out.cell 1
    have z2 := HKz.out.cell 2
    have z3 := HKz.out.cell 3
    have zf0 := HKz.out.frozen 0
    have zf1 := HKz.out.frozen 1
    have zf2 := HKz.out.frozen 2
    have zf3 := HKz.out.frozen 3
    clear hb hq1 hq2 hz
    have HXP : Hid (∀ k, (fun k => X k ∨ k = W.heap.size + 1 + 1) k → k < V.heap.size) := (by rintro k (hk | rfl); exact Nat.lt_of_lt_of_le (HX.out k hk) HB.out.size; exact HKz.out.lt)
    go_wp2_with (first | (go_at_call 72; refine (elements_v (X := (fun k => X k ∨ k = W.heap.size + 1 + 1)) (W := V) HXP.out (H1.out.up HB.out (by omega)) HP.out).mono ?_; rintro e V2 hm; rw [HE.out] at hm; obtain ⟨hb1, v, cs, rfl, ho, hs⟩ := hm.yes; obtain ⟨A5, c5, rfl, hnc, hcm⟩ := own_slice ho; have HL := Lib.hid (lex_own ho HXP.out (std_weak hs (fun k hk => .inl hk))).1; have HKq1 := Lib.hid (HKq1.out.keep hb1); have HKq2 := Lib.hid (HKq2.out.keep hb1); have HKz := Lib.hid (HKz.out.keep hb1); have HB := Lib.hid (below_step HB.out hb1); have q10 := HKq1.out.cell 0; have q11 := HKq1.out.cell 1; have q12 := HKq1.out.cell 2; have q13 := HKq1.out.cell 3; have q1f0 := HKq1.out.frozen 0; have q1f1 := HKq1.out.frozen 1; have q1f2 := HKq1.out.frozen 2; have q1f3 := HKq1.out.frozen 3; have q20 := HKq2.out.cell 0; have q21 := HKq2.out.cell 1; have q22 := HKq2.out.cell 2; have q23 := HKq2.out.cell 3; have q2f0 := HKq2.out.frozen 0; have q2f1 := HKq2.out.frozen 1; have q2f2 := HKq2.out.frozen 2; have q2f3 := HKq2.out.frozen 3; have z0 := HKz.out.cell 0; have z1 := HKz.out.cell 1; have z2 := HKz.out.cell 2; have z3 := HKz.out.cell 3; have zf0 := HKz.out.frozen 0; have zf1 := HKz.out.frozen 1; have zf2 := HKz.out.frozen 2; have zf3 := HKz.out.frozen 3; clear hb1 ho hs hnc hcm) | (go_at_call 73; refine (behind_v (X := (fun k => X k ∨ k = W.heap.size + 1 + 1)) (w := V2) (by rintro k (hk | rfl); exact Nat.lt_of_lt_of_le (HX.out k hk) HB.out.size; exact HKz.out.lt) HL.out HLN.out (H2.out.up HB.out (by omega))).mono ?_; rintro e V3 ⟨v, rfl, hTc, hb1⟩; obtain ⟨A7, n7, c7, rfl, hn7⟩ := hTc.form; have HTC := Lib.hid hTc; have HKq1 := Lib.hid (HKq1.out.keep hb1); have HKq2 := Lib.hid (HKq2.out.keep hb1); have HKz := Lib.hid (HKz.out.keep hb1); have HB := Lib.hid (below_step HB.out hb1); have q10 := HKq1.out.cell 0; have q11 := HKq1.out.cell 1; have q12 := HKq1.out.cell 2; have q13 := HKq1.out.cell 3; have q1f0 := HKq1.out.frozen 0; have q1f1 := HKq1.out.frozen 1; have q1f2 := HKq1.out.frozen 2; have q1f3 := HKq1.out.frozen 3; have q20 := HKq2.out.cell 0; have q21 := HKq2.out.cell 1; have q22 := HKq2.out.cell 2; have q23 := HKq2.out.cell 3; have q2f0 := HKq2.out.frozen 0; have q2f1 := HKq2.out.frozen 1; have q2f2 := HKq2.out.frozen 2; have q2f3 := HKq2.out.frozen 3; have z0 := HKz.out.cell 0; have z1 := HKz.out.cell 1; have z2 := HKz.out.cell 2; have z3 := HKz.out.cell 3; have zf0 := HKz.out.frozen 0; have zf1 := HKz.out.frozen 1; have zf2 := HKz.out.frozen 2; have zf3 := HKz.out.frozen 3; clear hb1 hTc hn7) | (go_at_call 16; refine (fits_v (X := (fun k => X k ∨ k = W.heap.size + 1 + 1)) (W := V3) (by rintro k (hk | rfl); exact Nat.lt_of_lt_of_le (HX.out k hk) HB.out.size; exact HKz.out.lt) HTC.out).mono ?_; rintro e w1 ⟨v, rfl, hT, hb1⟩; obtain ⟨A9, n9, c9, rfl, hn⟩ := hT.form; have HT := Lib.hid hT; have HKq1 := Lib.hid (HKq1.out.keep hb1); have HKq2 := Lib.hid (HKq2.out.keep hb1); have HKz := Lib.hid (HKz.out.keep hb1); have HB := Lib.hid (below_step HB.out hb1); have q10 := HKq1.out.cell 0; have q11 := HKq1.out.cell 1; have q12 := HKq1.out.cell 2; have q13 := HKq1.out.cell 3; have q1f0 := HKq1.out.frozen 0; have q1f1 := HKq1.out.frozen 1; have q1f2 := HKq1.out.frozen 2; have q1f3 := HKq1.out.frozen 3; have q20 := HKq2.out.cell 0; have q21 := HKq2.out.cell 1; have q22 := HKq2.out.cell 2; have q23 := HKq2.out.cell 3; have q2f0 := HKq2.out.frozen 0; have q2f1 := HKq2.out.frozen 1; have q2f2 := HKq2.out.frozen 2; have q2f3 := HKq2.out.frozen 3; have z0 := HKz.out.cell 0; have z1 := HKz.out.cell 1; have z2 := HKz.out.cell 2; have z3 := HKz.out.cell 3; have zf0 := HKz.out.frozen 0; have zf1 := HKz.out.frozen 1; have zf2 := HKz.out.frozen 2; have zf3 := HKz.out.frozen 3; clear hn hT hb1))
    have hB2 := HKz.out.set4 (.int .i64 ((fitP (lstE l t2)).1).kind) (.int .i64 ((fitP (lstE l t2)).1).int) (.string ⟨((fitP (lstE l t2)).1).name.toArray⟩) (.slice A9 n9 c9)
    have y0 := hB2.cell 0
    have y1 := hB2.cell 1
    have y2 := hB2.cell 2
    have y3 := hB2.cell 3
    refine bodyPost_ret (v := .tuple #[.agg #[.int .i64 ((fitP (lstE l t2)).1).kind, .int .i64 ((fitP (lstE l t2)).1).int, .string ⟨((fitP (lstE l t2)).1).name.toArray⟩, .slice A9 n9 c9], .string ⟨((fitP (lstE l t2)).2).toArray⟩]) (by simp [results, Tryz.results71, go_sem, y0, y1, y2, y3]) rfl ?_
    obtain ⟨g1, g2⟩ := fin4 (X := X) HB.out (by omega) HT.out
    exact ⟨_, rfl, g1, g2⟩
end
end Go.Proofs.YtbpnlpjbjmojfaaGreat
