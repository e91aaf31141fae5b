/- Arith (layer 14), the document's answer: List with marks; one: tuple_to_list, other names. Written by argenrf.py. -/
import Derived.Test.YtbpnlpjbjmojfaaGreatArRe
import Derived.StillTailTactics
namespace Go.Proofs.YtbpnlpjbjmojfaaGreat
open Go.RowKit
set_option linter.unusedVariables false
section
variable {w W V V' : World} {u u1 u2 : Value} {t t1 t2 : TV}

set_option maxRecDepth 100000 in
set_option maxHeartbeats 2000000 in
theorem tlistx_v {X : Nat → Prop} (hX : ∀ k, X k → k < w.heap.size) {A : Option Addr} {n c : Nat} {l : List TV} (hL : LEx X w (.slice A n c) l) (hlen : l.length ≤ 1000000) : Calls Tryz.prog 78 #[.slice A n c] w (R1 X w (lstT l)) := by
  have hl : l.length = n := by obtain ⟨A', n', c', e, h, _⟩ := hL.form; obtain ⟨rfl, rfl, rfl⟩ := Value.slice.inj e; exact h
  obtain ⟨hlc, hcm⟩ : n ≤ c ∧ c ≤ 9223372036854775807 := by obtain ⟨A', n', c', e, h, h2, h3⟩ := hL.form; obtain ⟨rfl, rfl, rfl⟩ := Value.slice.inj e; exact ⟨h2, h3⟩
  have HL := Lib.hid hL
  have HLN := Lib.hid hl
  have hn : n ≤ 1000000 := by omega
  have hw : wrap64 ((n : Int) - 1) = (n : Int) - 1 := by unfold wrap64; omega
  have HX := Lib.hid hX
  clear hL hl hlen hX
  go_enter Tryz.func78, Tryz.ntmps78
  go_upto_region 2 with (go_at_call 12; refine (tnil_v _).mono ?_; rintro e w1 ⟨rfl, hb1⟩)
  obtain ⟨Bo, hBo⟩ : ∃ g, w1.heap.size = g := ⟨_, rfl⟩
  rw [hBo]
  refine wp_world (fun V => LI X w Bo w.heap.size 0 tN V ∧ w.heap.size < Bo) (by
    have hs := hb1.size
    rw [← hBo]
    exact ⟨⟨⟨none, 0, 0, Blk.new _ _ _, tex_n _ _⟩, ((Blk.new w _ _).keep hb1).alloc _, below_step (below_step (below_alloc _ _) hb1) (below_alloc _ _), Nat.zero_le _⟩, by simp at hs; omega⟩) ?_
  clear hb1 hBo
  rintro V0 ⟨hI, hlt0⟩
  have HI0 := Lib.hid hI
  have HLT := Lib.hid hlt0
  clear hI hlt0
  go_upto_region 3 with (fail)
  clear hw
  go_loopw [4] (fun v wr => ∃ j : Nat, v = .int .i64 ((n : Int) - 1 - j) ∧ j ≤ n ∧ Hid (LI X w Bo w.heap.size 0 (lstE (l.drop (n - j)) tN) wr)) (fun v _ => match v with | .int _ i => (i + 1).toNat | _ => 0)
  case atStart => exact ⟨0, by simp, by omega, by
    show LI _ _ _ _ _ (lstE (l.drop (n - 0)) tN) _
    rw [Nat.sub_zero, List.drop_eq_nil_of_le (by rw [HLN.out]; exact Nat.le_refl _)]
    exact HI0.out⟩
  case round =>
    obtain ⟨j, rfl, hj, HI⟩ := hrel
    by_cases h : j < n
    · obtain ⟨i, hi⟩ : ∃ i, i = n - 1 - j := ⟨_, rfl⟩
      have ei : (n : Int) - 1 - (j : Int) = (i : Int) := by omega
      have hd : decide ((0 : Int) ≤ (i : Int)) = true := by simp
      have hil : i < l.length := by rw [HLN.out]; omega
      have hnext : lstE (l.drop (n - (j + 1))) tN = tC l[i] (lstE (l.drop (n - j)) tN) := by
        rw [show n - (j + 1) = i by omega, List.drop_eq_getElem_cons hil, show i + 1 = n - j by omega]
        rfl
      obtain ⟨acc, hacc⟩ : ∃ a, lstE (l.drop (n - j)) tN = a := ⟨_, rfl⟩
      rw [hacc] at HI hnext
      have HNX := Lib.hid hnext
      obtain ⟨b, o, A', n', c', rfl, e0, e1, e2, e3, hin, hIT⟩ := HL.out.item hil
      obtain ⟨⟨A1, n1, c1, hv, hT⟩, hr, hB, _⟩ := HI.out
      have HIT := Lib.hid hIT
      have HV := Lib.hid hv
      have HT := Lib.hid hT
      have HR := Lib.hid hr
      have HB := Lib.hid hB
      have i0 := (hB.cell (World.block_lt_of_cell? w _ e0)).trans e0
      have i1 := (hB.cell (World.block_lt_of_cell? w _ e1)).trans e1
      have i2 := (hB.cell (World.block_lt_of_cell? w _ e2)).trans e2
      have i3 := (hB.cell (World.block_lt_of_cell? w _ e3)).trans e3
      have z0 := hv.cell 0
      have z1 := hv.cell 1
      have z2 := hv.cell 2
      have z3 := hv.cell 3
      have hq1 : (0 : Int) ≤ (i : Int) := by omega
      have hq2 : (i : Int) < (n : Int) := by omega
      have hw : wrap64 ((i : Int) - 1) = (i : Int) - 1 := by unfold wrap64; omega
      have HW := Lib.hid hw
      have HEI := Lib.hid ei
      have HH := Lib.hid h
      have HJI := Lib.hid hi
      generalize l[i] = x at *
      clear e0 e1 e2 e3 hin hIT hv hT hr hB hnext hil hacc hw hi h
      rw [HEI.out]
      go_upto_region 5 with (fail)
      go_still_tail 5, (by kernel_rfl)
      refine wpList_world (fun V => Below wr.heap.size wr V) (Below.refl _ _).drew ?_
      intro V2 hb2
      have HC := Lib.hid (tcons_v (X := fun k => X k ∨ k = Bo ∨ k = w.heap.size) (W := V2)
        (by rintro k (hk | rfl | rfl); exact Nat.lt_of_lt_of_le (Nat.lt_of_lt_of_le (HX.out k hk) HB.out.size) hb2.size; exact Nat.lt_of_lt_of_le HV.out.lt hb2.size; exact Nat.lt_of_lt_of_le HR.out.lt hb2.size)
        (((HIT.out.weak (Y := fun k => X k ∨ k = Bo ∨ k = w.heap.size) (by have := HLT.out; rintro k hk (h9 | rfl | rfl); exact h9; omega; omega)).below HB.out).below hb2) (HT.out.below hb2))
      have HB2 := Lib.hid hb2
      clear hb2
      go_wp2_with (go_at_call 80; refine HC.out.mono ?_; rintro e w5 ⟨v, rfl, hT5, hb5⟩; obtain ⟨A5, n5, c5, rfl, hn5⟩ := hT5.form; have HT5 := Lib.hid hT5; have HB5 := Lib.hid (below_step HB2.out hb5); have hv5 := HV.out.keep HB5.out; have HV5 := Lib.hid hv5; have y0 := hv5.cell 0; have y1 := hv5.cell 1; have y2 := hv5.cell 2; have y3 := hv5.cell 3; have f0 := hv5.frozen 0; have f1 := hv5.frozen 1; have f2 := hv5.frozen 2; have f3 := hv5.frozen 3; have hw := HW.out; clear hT5 hb5 hn5 hv5)
      go_roundw
      case rel =>
        have hset := HV5.out.set4 (.int .i64 (tC x acc).kind) (.int .i64 (tC x acc).int) (.string ⟨(tC x acc).name.toArray⟩) (.slice A5 n5 c5)
        have hf4 := fr_set4 w5 Bo (.int .i64 (tC x acc).kind) (.int .i64 (tC x acc).int) (.string ⟨(tC x acc).name.toArray⟩) (.slice A5 n5 c5)
        refine ⟨j + 1, by have := HEI.out; simp; omega, by have := HH.out; omega, ?_⟩
        rw [HNX.out]
        refine ⟨⟨A5, n5, c5, hset, HT5.out.step hf4 (fun k _ hk => .inr (.inl hk))⟩, ?_, ?_, Nat.zero_le _⟩
        · have hne : w.heap.size ≠ Bo := by have := HLT.out; omega
          exact ((((HR.out.keep HB5.out).far hne _).far hne _).far hne _).far hne _
        · have hbx := below_step HB.out HB5.out
          exact hbx.trans (hf4.below hbx.size (fun k hk => by have := HLT.out; omega))
      case measure => simp
    · obtain rfl : j = n := by omega
      have hd : decide ((0 : Int) ≤ (j : Int) - 1 - (j : Int)) = false := by simp; omega
      have hfin : lstE (l.drop (j - j)) tN = lstT l := by rw [Nat.sub_self, List.drop_zero]; rfl
      rw [hfin] at HI
      obtain ⟨⟨A1, n1, c1, hv, hT⟩, hr, hB, _⟩ := HI.out
      have HT := Lib.hid hT
      have HR := Lib.hid hr
      have HB := Lib.hid hB
      have z0 := hv.cell 0
      have z1 := hv.cell 1
      have z2 := hv.cell 2
      have z3 := hv.cell 3
      have r0 := hr.cell 0
      have r1 := hr.cell 1
      have r2 := hr.cell 2
      have r3 := hr.cell 3
      have f0 := hr.frozen 0
      have f1 := hr.frozen 1
      have f2 := hr.frozen 2
      have f3 := hr.frozen 3
      clear hv hT hr hB hfin h HI
      go_wp2
      have hB2 := HR.out.set4 (.int .i64 (lstT l).kind) (.int .i64 (lstT l).int) (.string ⟨(lstT l).name.toArray⟩) (.slice A1 n1 c1)
      have y0 := hB2.cell 0
      have y1 := hB2.cell 1
      have y2 := hB2.cell 2
      have y3 := hB2.cell 3
      refine bodyPost_ret (v := .agg #[.int .i64 (lstT l).kind, .int .i64 (lstT l).int, .string ⟨(lstT l).name.toArray⟩, .slice A1 n1 c1]) (by simp [results, Tryz.results78, go_sem, y0, y1, y2, y3]) rfl ?_
      have hf4 := fr_set4 wr w.heap.size (.int .i64 (lstT l).kind) (.int .i64 (lstT l).int) (.string ⟨(lstT l).name.toArray⟩) (.slice A1 n1 c1)
      exact ⟨_, rfl, (HT.out.step hf4 (fun k _ hk => .inr (.inr hk))).weak (Y := X) (fun k _ h => .inl h), HB.out.trans (hf4.below HB.out.size (fun k hk => by rw [hk]; exact Nat.le_refl _))⟩

set_option maxRecDepth 100000 in
set_option maxHeartbeats 1000000 in
theorem rone_other {X : Nat → Prop} (hX : ∀ k, X k → k < W.heap.size) (h1 : TEx X W u1 t1) (hp : t1.parts ≤ 1000000) {s : List UInt8} (hs : ∀ n ∈ onesN, ¬ s = n) : Calls Tryz.prog 23 #[.string ⟨s.toArray⟩, u1] W (R2 X W (tZ, sUnd)) := by
  obtain ⟨A1, n1, c1, rfl, hn1⟩ := h1.form
  have H1 := Lib.hid h1
  have HN1 := Lib.hid hn1
  have HX := Lib.hid hX
  clear h1 hn1 hX
  have HP := Lib.hid hp
  clear hp
  have d0 : (s == [45]) = false := by simpa using hs [45] (by simp [onesN])
  have d1 : (s == [110, 111, 116]) = false := by simpa using hs [110, 111, 116] (by simp [onesN])
  have d2 : (s == [105, 115, 95, 105, 110, 116, 101, 103, 101, 114]) = false := by simpa using hs [105, 115, 95, 105, 110, 116, 101, 103, 101, 114] (by simp [onesN])
  have d3 : (s == [105, 115, 95, 97, 116, 111, 109]) = false := by simpa using hs [105, 115, 95, 97, 116, 111, 109] (by simp [onesN])
  have d4 : (s == [105, 115, 95, 112, 105, 100]) = false := by simpa using hs [105, 115, 95, 112, 105, 100] (by simp [onesN])
  have d5 : (s == [105, 115, 95, 114, 101, 102, 101, 114, 101, 110, 99, 101]) = false := by simpa using hs [105, 115, 95, 114, 101, 102, 101, 114, 101, 110, 99, 101] (by simp [onesN])
  have d6 : (s == [105, 115, 95, 102, 117, 110, 99, 116, 105, 111, 110]) = false := by simpa using hs [105, 115, 95, 102, 117, 110, 99, 116, 105, 111, 110] (by simp [onesN])
  have d7 : (s == [105, 115, 95, 116, 117, 112, 108, 101]) = false := by simpa using hs [105, 115, 95, 116, 117, 112, 108, 101] (by simp [onesN])
  have d8 : (s == [105, 115, 95, 108, 105, 115, 116]) = false := by simpa using hs [105, 115, 95, 108, 105, 115, 116] (by simp [onesN])
  have d9 : (s == [104, 100]) = false := by simpa using hs [104, 100] (by simp [onesN])
  have d10 : (s == [116, 108]) = false := by simpa using hs [116, 108] (by simp [onesN])
  have d11 : (s == [116, 117, 112, 108, 101, 95, 115, 105, 122, 101]) = false := by simpa using hs [116, 117, 112, 108, 101, 95, 115, 105, 122, 101] (by simp [onesN])
  have d12 : (s == [116, 117, 112, 108, 101, 95, 116, 111, 95, 108, 105, 115, 116]) = false := by simpa using hs [116, 117, 112, 108, 101, 95, 116, 111, 95, 108, 105, 115, 116] (by simp [onesN])
  have d13 : (s == [108, 101, 110, 103, 116, 104]) = false := by simpa using hs [108, 101, 110, 103, 116, 104] (by simp [onesN])
  have d14 : (s == [108, 105, 115, 116, 95, 116, 111, 95, 116, 117, 112, 108, 101]) = false := by simpa using hs [108, 105, 115, 116, 95, 116, 111, 95, 116, 117, 112, 108, 101] (by simp [onesN])
  have d15 : (s == [114, 101, 118, 101, 114, 115, 101]) = false := by simpa using hs [114, 101, 118, 101, 114, 115, 101] (by simp [onesN])
  have D0 := Lib.hid d0
  have D1 := Lib.hid d1
  have D2 := Lib.hid d2
  have D3 := Lib.hid d3
  have D4 := Lib.hid d4
  have D5 := Lib.hid d5
  have D6 := Lib.hid d6
  have D7 := Lib.hid d7
  have D8 := Lib.hid d8
  have D9 := Lib.hid d9
  have D10 := Lib.hid d10
  have D11 := Lib.hid d11
  have D12 := Lib.hid d12
  have D13 := Lib.hid d13
  have D14 := Lib.hid d14
  have D15 := Lib.hid d15
  clear hs d0 d1 d2 d3 d4 d5 d6 d7 d8 d9 d10 d11 d12 d13 d14 d15
  cases hE : elsT t1 with
  | none =>
    have HE : Hid (∀ V, Below W.heap.size W V → (∀ k, (fun k => X k ∨ k = W.heap.size + 1) k → k < V.heap.size) → Calls Tryz.prog 79 #[.agg #[.int .i64 t1.kind, .int .i64 t1.int, .string ⟨t1.name.toArray⟩, .slice A1 n1 c1]] V (EL (fun k => X k ∨ k = W.heap.size + 1) V none)) := fun V hb hx => hE ▸ relements_v (X := (fun k => X k ∨ k = W.heap.size + 1)) hx (H1.out.up hb (by omega)) HP.out
    clear hE
    go_enter Tryz.func23, Tryz.ntmps23
    go_upto_region 1 with (fail)
    refine wp_world (fun V => Below W.heap.size W V ∧ Blk V (W.heap.size) 26 #[.int .i64 t1.kind, .int .i64 t1.int, .string ⟨t1.name.toArray⟩, .slice A1 n1 c1] ∧ Blk V (W.heap.size + 1) 26 #[.int .i64 0, .int .i64 0, .string ⟨#[]⟩, .slice none 0 0]) ⟨below_step (below_alloc _ _) (below_alloc _ _), ((Blk.newAt (by first | (with_reducible rfl) | simp)).alloc _), (Blk.newAt (by first | (with_reducible rfl) | simp))⟩ ?_
    rintro V ⟨hb, hq1, hz⟩
    have HB := Lib.hid hb
    have HKq1 := Lib.hid hq1
    have HKz := Lib.hid hz
    have q10 := HKq1.out.cell 0
    have q11 := HKq1.out.cell 1
    have q12 := HKq1.out.cell 2
    have q13 := HKq1.out.cell 3
    have q1f0 := HKq1.out.frozen 0
    have q1f1 := HKq1.out.frozen 1
    have q1f2 := HKq1.out.frozen 2
    have q1f3 := HKq1.out.frozen 3
    have z0 := HKz.out.cell 0
    have z1 := HKz.out.cell 1
    have z2 := HKz.out.cell 2
    have z3 := HKz.out.cell 3
    have zf0 := HKz.out.frozen 0
    have zf1 := HKz.out.frozen 1
    have zf2 := HKz.out.frozen 2
    have zf3 := HKz.out.frozen 3
    clear hb hq1 hz
    have d0 := D0.out
    have d1 := D1.out
    have d2 := D2.out
    have d3 := D3.out
    have d4 := D4.out
    have d5 := D5.out
    have d6 := D6.out
    have d7 := D7.out
    have d8 := D8.out
    have d9 := D9.out
    have d10 := D10.out
    have d11 := D11.out
    have d12 := D12.out
    have d13 := D13.out
    have d14 := D14.out
    have d15 := D15.out
    go_wp2_with (go_at_call 79; refine (HE.out V HB.out (by rintro k (hk | rfl); exact Nat.lt_of_lt_of_le (HX.out k hk) HB.out.size; exact HKz.out.lt)).mono ?_; rintro e V ⟨hb1, rfl⟩; have HKq1 := Lib.hid (HKq1.out.keep hb1); have HKz := Lib.hid (HKz.out.keep hb1); have HB := Lib.hid (below_step HB.out hb1); have q10 := HKq1.out.cell 0; have q11 := HKq1.out.cell 1; have q12 := HKq1.out.cell 2; have q13 := HKq1.out.cell 3; have q1f0 := HKq1.out.frozen 0; have q1f1 := HKq1.out.frozen 1; have q1f2 := HKq1.out.frozen 2; have q1f3 := HKq1.out.frozen 3; have z0 := HKz.out.cell 0; have z1 := HKz.out.cell 1; have z2 := HKz.out.cell 2; have z3 := HKz.out.cell 3; have zf0 := HKz.out.frozen 0; have zf1 := HKz.out.frozen 1; have zf2 := HKz.out.frozen 2; have zf3 := HKz.out.frozen 3; clear hb1)
    have hB2 := HKz.out.set4 (.int .i64 0) (.int .i64 0) (.string ⟨#[]⟩) (.slice none 0 0)
    have y0 := hB2.cell 0
    have y1 := hB2.cell 1
    have y2 := hB2.cell 2
    have y3 := hB2.cell 3
    refine bodyPost_ret (v := .tuple #[.agg #[.int .i64 0, .int .i64 0, .string ⟨#[]⟩, .slice none 0 0], .string ⟨(sUnd).toArray⟩]) (by simp [results, Tryz.results23, go_sem, y0, y1, y2, y3, sUnd]) rfl ?_
    obtain ⟨g1, g2⟩ := fin4 (X := X) (p := W.heap.size + 1) HB.out (by omega) (tex_z _ _)
    exact ⟨_, rfl, g1, g2⟩
  | some l =>
    have HE : Hid (∀ V, Below W.heap.size W V → (∀ k, (fun k => X k ∨ k = W.heap.size + 1) k → k < V.heap.size) → Calls Tryz.prog 79 #[.agg #[.int .i64 t1.kind, .int .i64 t1.int, .string ⟨t1.name.toArray⟩, .slice A1 n1 c1]] V (EL (fun k => X k ∨ k = W.heap.size + 1) V (some l))) := fun V hb hx => hE ▸ relements_v (X := (fun k => X k ∨ k = W.heap.size + 1)) hx (H1.out.up hb (by omega)) HP.out
    clear hE
    go_enter Tryz.func23, Tryz.ntmps23
    go_upto_region 1 with (fail)
    refine wp_world (fun V => Below W.heap.size W V ∧ Blk V (W.heap.size) 26 #[.int .i64 t1.kind, .int .i64 t1.int, .string ⟨t1.name.toArray⟩, .slice A1 n1 c1] ∧ Blk V (W.heap.size + 1) 26 #[.int .i64 0, .int .i64 0, .string ⟨#[]⟩, .slice none 0 0]) ⟨below_step (below_alloc _ _) (below_alloc _ _), ((Blk.newAt (by first | (with_reducible rfl) | simp)).alloc _), (Blk.newAt (by first | (with_reducible rfl) | simp))⟩ ?_
    rintro V ⟨hb, hq1, hz⟩
    have HB := Lib.hid hb
    have HKq1 := Lib.hid hq1
    have HKz := Lib.hid hz
    have q10 := HKq1.out.cell 0
    have q11 := HKq1.out.cell 1
    have q12 := HKq1.out.cell 2
    have q13 := HKq1.out.cell 3
    have q1f0 := HKq1.out.frozen 0
    have q1f1 := HKq1.out.frozen 1
    have q1f2 := HKq1.out.frozen 2
    have q1f3 := HKq1.out.frozen 3
    have z0 := HKz.out.cell 0
    have z1 := HKz.out.cell 1
    have z2 := HKz.out.cell 2
    have z3 := HKz.out.cell 3
    have zf0 := HKz.out.frozen 0
    have zf1 := HKz.out.frozen 1
    have zf2 := HKz.out.frozen 2
    have zf3 := HKz.out.frozen 3
    clear hb hq1 hz
    have d0 := D0.out
    have d1 := D1.out
    have d2 := D2.out
    have d3 := D3.out
    have d4 := D4.out
    have d5 := D5.out
    have d6 := D6.out
    have d7 := D7.out
    have d8 := D8.out
    have d9 := D9.out
    have d10 := D10.out
    have d11 := D11.out
    have d12 := D12.out
    have d13 := D13.out
    have d14 := D14.out
    have d15 := D15.out
    go_wp2_with (go_at_call 79; have HXP := Lib.hid (show ∀ k, (fun k => X k ∨ k = W.heap.size + 1) k → k < V.heap.size from (by rintro k (hk | rfl); exact Nat.lt_of_lt_of_le (HX.out k hk) HB.out.size; exact HKz.out.lt)); refine (HE.out V HB.out HXP.out).mono ?_; rintro e V ⟨hb1, v, cs, rfl, ho, hs⟩; obtain ⟨A5, c5, rfl, hnc, hcm⟩ := own_slice ho; have HL := Lib.hid (lex_own ho HXP.out (std_weak hs (fun k hk => .inl hk))).1; have HKq1 := Lib.hid (HKq1.out.keep hb1); have HKz := Lib.hid (HKz.out.keep hb1); have HB := Lib.hid (below_step HB.out hb1); have q10 := HKq1.out.cell 0; have q11 := HKq1.out.cell 1; have q12 := HKq1.out.cell 2; have q13 := HKq1.out.cell 3; have q1f0 := HKq1.out.frozen 0; have q1f1 := HKq1.out.frozen 1; have q1f2 := HKq1.out.frozen 2; have q1f3 := HKq1.out.frozen 3; have z0 := HKz.out.cell 0; have z1 := HKz.out.cell 1; have z2 := HKz.out.cell 2; have z3 := HKz.out.cell 3; have zf0 := HKz.out.frozen 0; have zf1 := HKz.out.frozen 1; have zf2 := HKz.out.frozen 2; have zf3 := HKz.out.frozen 3; clear hb1 ho hs hnc hcm HXP)
    have hB2 := HKz.out.set4 (.int .i64 0) (.int .i64 0) (.string ⟨#[]⟩) (.slice none 0 0)
    have y0 := hB2.cell 0
    have y1 := hB2.cell 1
    have y2 := hB2.cell 2
    have y3 := hB2.cell 3
    refine bodyPost_ret (v := .tuple #[.agg #[.int .i64 0, .int .i64 0, .string ⟨#[]⟩, .slice none 0 0], .string ⟨(sUnd).toArray⟩]) (by simp [results, Tryz.results23, go_sem, y0, y1, y2, y3, sUnd]) rfl ?_
    obtain ⟨g1, g2⟩ := fin4 (X := X) (p := W.heap.size + 1) HB.out (by omega) (tex_z _ _)
    exact ⟨_, rfl, g1, g2⟩
set_option maxRecDepth 100000 in
set_option maxHeartbeats 1000000 in
theorem rone_tuple_to_list {X : Nat → Prop} (hX : ∀ k, X k → k < W.heap.size) (h1 : TEx X W u1 t1) (hle : t1.items.length ≤ 1000000) : Calls Tryz.prog 23 #[.string ⟨#[116, 117, 112, 108, 101, 95, 116, 111, 95, 108, 105, 115, 116]⟩, u1] W (R2 X W (if t1.kind = 6 then fitP (lstT t1.items) else (tZ, sArg))) := by
  obtain ⟨A1, n1, c1, rfl, hn1⟩ := h1.form
  have H1 := Lib.hid h1
  have HN1 := Lib.hid hn1
  have HX := Lib.hid hX
  clear h1 hn1 hX
  have HLE := Lib.hid hle
  clear hle
  by_cases k1 : t1.kind = 6
  · rw [if_pos k1]
    have Ik1 := Lib.hid k1
    clear k1
    go_enter Tryz.func23, Tryz.ntmps23
    go_upto_region 1 with (fail)
    refine wp_world (fun V => Below W.heap.size W V ∧ Blk V (W.heap.size) 26 #[.int .i64 t1.kind, .int .i64 t1.int, .string ⟨t1.name.toArray⟩, .slice A1 n1 c1] ∧ Blk V (W.heap.size + 1) 26 #[.int .i64 0, .int .i64 0, .string ⟨#[]⟩, .slice none 0 0]) ⟨below_step (below_alloc _ _) (below_alloc _ _), ((Blk.newAt (by first | (with_reducible rfl) | simp)).alloc _), (Blk.newAt (by first | (with_reducible rfl) | simp))⟩ ?_
    rintro V ⟨hb, hq1, hz⟩
    have HB := Lib.hid hb
    have HKq1 := Lib.hid hq1
    have HKz := Lib.hid hz
    have q10 := HKq1.out.cell 0
    have q11 := HKq1.out.cell 1
    have q12 := HKq1.out.cell 2
    have q13 := HKq1.out.cell 3
    have q1f0 := HKq1.out.frozen 0
    have q1f1 := HKq1.out.frozen 1
    have q1f2 := HKq1.out.frozen 2
    have q1f3 := HKq1.out.frozen 3
    have z0 := HKz.out.cell 0
    have z1 := HKz.out.cell 1
    have z2 := HKz.out.cell 2
    have z3 := HKz.out.cell 3
    have zf0 := HKz.out.frozen 0
    have zf1 := HKz.out.frozen 1
    have zf2 := HKz.out.frozen 2
    have zf3 := HKz.out.frozen 3
    clear hb hq1 hz
    have k1 := Ik1.out
    go_wp2_with (first | (go_at_call 78; refine (tlistx_v (X := (fun k => X k ∨ k = W.heap.size + 1)) (w := V) (by rintro k (hk | rfl); exact Nat.lt_of_lt_of_le (HX.out k hk) HB.out.size; exact HKz.out.lt) (H1.out.up HB.out (by omega)).items HLE.out).mono ?_; rintro e V ⟨v, rfl, hTc, hb1⟩; obtain ⟨A7, n7, c7, rfl, hn7⟩ := hTc.form; have HTC := Lib.hid hTc; have HKq1 := Lib.hid (HKq1.out.keep hb1); have HKz := Lib.hid (HKz.out.keep hb1); have HB := Lib.hid (below_step HB.out hb1); have q10 := HKq1.out.cell 0; have q11 := HKq1.out.cell 1; have q12 := HKq1.out.cell 2; have q13 := HKq1.out.cell 3; have q1f0 := HKq1.out.frozen 0; have q1f1 := HKq1.out.frozen 1; have q1f2 := HKq1.out.frozen 2; have q1f3 := HKq1.out.frozen 3; have z0 := HKz.out.cell 0; have z1 := HKz.out.cell 1; have z2 := HKz.out.cell 2; have z3 := HKz.out.cell 3; have zf0 := HKz.out.frozen 0; have zf1 := HKz.out.frozen 1; have zf2 := HKz.out.frozen 2; have zf3 := HKz.out.frozen 3; clear hb1 hTc hn7) | (go_at_call 21; refine (rfits_v (X := (fun k => X k ∨ k = W.heap.size + 1)) (W := V) (by rintro k (hk | rfl); exact Nat.lt_of_lt_of_le (HX.out k hk) HB.out.size; exact HKz.out.lt) HTC.out).mono ?_; rintro e w1 ⟨v, rfl, hT, hb1⟩; obtain ⟨A9, n9, c9, rfl, hn⟩ := hT.form; have HT := Lib.hid hT; have HKq1 := Lib.hid (HKq1.out.keep hb1); have HKz := Lib.hid (HKz.out.keep hb1); have HB := Lib.hid (below_step HB.out hb1); have q10 := HKq1.out.cell 0; have q11 := HKq1.out.cell 1; have q12 := HKq1.out.cell 2; have q13 := HKq1.out.cell 3; have q1f0 := HKq1.out.frozen 0; have q1f1 := HKq1.out.frozen 1; have q1f2 := HKq1.out.frozen 2; have q1f3 := HKq1.out.frozen 3; have z0 := HKz.out.cell 0; have z1 := HKz.out.cell 1; have z2 := HKz.out.cell 2; have z3 := HKz.out.cell 3; have zf0 := HKz.out.frozen 0; have zf1 := HKz.out.frozen 1; have zf2 := HKz.out.frozen 2; have zf3 := HKz.out.frozen 3; clear hn hT hb1))
    have hB2 := HKz.out.set4 (.int .i64 ((fitP (lstT t1.items)).1).kind) (.int .i64 ((fitP (lstT t1.items)).1).int) (.string ⟨((fitP (lstT t1.items)).1).name.toArray⟩) (.slice A9 n9 c9)
    have y0 := hB2.cell 0
    have y1 := hB2.cell 1
    have y2 := hB2.cell 2
    have y3 := hB2.cell 3
    refine bodyPost_ret (v := .tuple #[.agg #[.int .i64 ((fitP (lstT t1.items)).1).kind, .int .i64 ((fitP (lstT t1.items)).1).int, .string ⟨((fitP (lstT t1.items)).1).name.toArray⟩, .slice A9 n9 c9], .string ⟨((fitP (lstT t1.items)).2).toArray⟩]) (by simp [results, Tryz.results23, go_sem, y0, y1, y2, y3]) rfl ?_
    obtain ⟨g1, g2⟩ := fin4 (X := X) HB.out (by omega) HT.out
    exact ⟨_, rfl, g1, g2⟩
  · rw [if_neg k1]
    have Ik1 := Lib.hid k1
    clear k1
    go_enter Tryz.func23, Tryz.ntmps23
    go_upto_region 1 with (fail)
    refine wp_world (fun V => Below W.heap.size W V ∧ Blk V (W.heap.size) 26 #[.int .i64 t1.kind, .int .i64 t1.int, .string ⟨t1.name.toArray⟩, .slice A1 n1 c1] ∧ Blk V (W.heap.size + 1) 26 #[.int .i64 0, .int .i64 0, .string ⟨#[]⟩, .slice none 0 0]) ⟨below_step (below_alloc _ _) (below_alloc _ _), ((Blk.newAt (by first | (with_reducible rfl) | simp)).alloc _), (Blk.newAt (by first | (with_reducible rfl) | simp))⟩ ?_
    rintro V ⟨hb, hq1, hz⟩
    have HB := Lib.hid hb
    have HKq1 := Lib.hid hq1
    have HKz := Lib.hid hz
    have q10 := HKq1.out.cell 0
    have q11 := HKq1.out.cell 1
    have q12 := HKq1.out.cell 2
    have q13 := HKq1.out.cell 3
    have q1f0 := HKq1.out.frozen 0
    have q1f1 := HKq1.out.frozen 1
    have q1f2 := HKq1.out.frozen 2
    have q1f3 := HKq1.out.frozen 3
    have z0 := HKz.out.cell 0
    have z1 := HKz.out.cell 1
    have z2 := HKz.out.cell 2
    have z3 := HKz.out.cell 3
    have zf0 := HKz.out.frozen 0
    have zf1 := HKz.out.frozen 1
    have zf2 := HKz.out.frozen 2
    have zf3 := HKz.out.frozen 3
    clear hb hq1 hz
    have k1 := Ik1.out
    go_wp2
    have hB2 := HKz.out.set4 (.int .i64 0) (.int .i64 0) (.string ⟨#[]⟩) (.slice none 0 0)
    have y0 := hB2.cell 0
    have y1 := hB2.cell 1
    have y2 := hB2.cell 2
    have y3 := hB2.cell 3
    refine bodyPost_ret (v := .tuple #[.agg #[.int .i64 0, .int .i64 0, .string ⟨#[]⟩, .slice none 0 0], .string ⟨(sArg).toArray⟩]) (by simp [results, Tryz.results23, go_sem, y0, y1, y2, y3, sArg]) rfl ?_
    obtain ⟨g1, g2⟩ := fin4 (X := X) (p := W.heap.size + 1) HB.out (by omega) (tex_z _ _)
    exact ⟨_, rfl, g1, g2⟩
end
end Go.Proofs.YtbpnlpjbjmojfaaGreat
