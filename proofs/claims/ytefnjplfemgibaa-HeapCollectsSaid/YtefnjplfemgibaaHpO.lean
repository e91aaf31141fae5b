/- Heap (layer 9): the document's List; live. Written by hpgeno.py. -/
import Derived.Test.YtefnjplfemgibaaHpN
import Derived.StillTailTactics
namespace Go.Proofs.Ytefnjplfemgibaa
open Go.RowKit
set_option linter.unusedVariables false

def lstE (l : List TV) (e : TV) : TV := l.foldr tC e
def lstT (l : List TV) : TV := lstE l tN
section
variable {w W V V' : World} {u u1 u2 : Value} {t t1 t2 : TV}
theorem kept_all (V : World) : Kept V (ers (fun _ => False) V) := kept_of fun p v h => (ers_cell _ _ _).2 ⟨fun h => h, h⟩
theorem LVal.lex {l : List TV} (h : LVal V u l) : LEx (fun _ => False) V u l := LVal.kept h (kept_all V)
def LI (X : Nat → Prop) (w : World) (Bo Br n1 : Nat) (acc : TV) (W : World) : Prop :=
  (∃ A n c, Blk W Bo 37 #[.int .i64 acc.kind, .int .i64 acc.int, .string ⟨acc.name.toArray⟩, .slice A n c] ∧ TEx (fun k => X k ∨ k = Bo ∨ k = Br) W (.agg #[.int .i64 acc.kind, .int .i64 acc.int, .string ⟨acc.name.toArray⟩, .slice A n c]) acc) ∧
  Blk W Br 37 #[.int .i64 0, .int .i64 0, .string ⟨#[]⟩, .slice none 0 0] ∧ Below w.heap.size w W ∧ n1 ≤ W.heap.size
set_option maxRecDepth 100000 in
set_option maxHeartbeats 2000000 in
theorem tlist_v {A : Option Addr} {n c : Nat} {l : List TV} (hL : LVal w (.slice A n c) l) (hlen : l.length ≤ 1000000) : Calls Try.prog 30 #[.slice A n c] w fun e w' => ∃ A9 n9 c9, e = .returned (.agg #[.int .i64 (lstT l).kind, .int .i64 (lstT l).int, .string ⟨(lstT l).name.toArray⟩, .slice A9 n9 c9]) ∧ TVal w' (.agg #[.int .i64 (lstT l).kind, .int .i64 (lstT l).int, .string ⟨(lstT l).name.toArray⟩, .slice A9 n9 c9]) (lstT l) ∧ Below w.heap.size w w' := by
  have hl : l.length = n := by obtain ⟨A', n', c', e, h, h3⟩ := hL; obtain ⟨rfl, rfl, rfl⟩ := Value.slice.inj e; exact h
  obtain ⟨hlc, hcm⟩ : n ≤ c ∧ c ≤ 9223372036854775807 := by obtain ⟨A', n', c', e, h, h3⟩ := hL; obtain ⟨rfl, rfl, rfl⟩ := Value.slice.inj e; exact ⟨by have := h3.1; omega, h3.2.1⟩
  have HL := Lib.hid hL.lex
  have HLN := Lib.hid hl
  have hn : n ≤ 1000000 := by omega
  have hw : wrap64 ((n : Int) - 1) = (n : Int) - 1 := by unfold wrap64; omega
  clear hL hl hlen
  go_enter Try.func30, Try.ntmps30
  go_upto_region 2 with (go_at_call 55; refine (tnil_v _).mono ?_; rintro e w1 ⟨rfl, hb1⟩)
  obtain ⟨Bo, hBo⟩ : ∃ g, w1.heap.size = g := ⟨_, rfl⟩
  rw [hBo]
  refine wp_world (fun V => LI (fun _ => False) w Bo w.heap.size 0 tN V ∧ w.heap.size < Bo) (by
    have hs := hb1.size
    rw [← hBo]
    exact ⟨⟨⟨none, 0, 0, Blk.new _ _ _, tex_n _ _⟩, ((Blk.new w _ _).keep hb1).alloc _, below_step (below_step (below_alloc _ _) hb1) (below_alloc _ _), Nat.zero_le _⟩, by simp at hs; omega⟩) ?_
  clear hb1 hBo
  rintro V0 ⟨hI, hlt0⟩
  have HI0 := Lib.hid hI
  have HLT := Lib.hid hlt0
  clear hI hlt0
  go_upto_region 3 with (fail)
  clear hw
  go_loopw [4] (fun v wr => ∃ j : Nat, v = .int .i64 ((n : Int) - 1 - j) ∧ j ≤ n ∧ Hid (LI (fun _ => False) w Bo w.heap.size 0 (lstE (l.drop (n - j)) tN) wr)) (fun v _ => match v with | .int _ i => (i + 1).toNat | _ => 0)
  case atStart => exact ⟨0, by simp, by omega, by
    show LI _ _ _ _ _ (lstE (l.drop (n - 0)) tN) _
    rw [Nat.sub_zero, List.drop_eq_nil_of_le (by rw [HLN.out]; exact Nat.le_refl _)]
    exact HI0.out⟩
  case round =>
    obtain ⟨j, rfl, hj, HI⟩ := hrel
    by_cases h : j < n
    · obtain ⟨i, hi⟩ : ∃ i, i = n - 1 - j := ⟨_, rfl⟩
      have ei : (n : Int) - 1 - (j : Int) = (i : Int) := by omega
      have hd : decide ((0 : Int) ≤ (i : Int)) = true := by simp
      have hil : i < l.length := by rw [HLN.out]; omega
      have hnext : lstE (l.drop (n - (j + 1))) tN = tC l[i] (lstE (l.drop (n - j)) tN) := by
        rw [show n - (j + 1) = i by omega, List.drop_eq_getElem_cons hil, show i + 1 = n - j by omega]
        rfl
      obtain ⟨acc, hacc⟩ : ∃ a, lstE (l.drop (n - j)) tN = a := ⟨_, rfl⟩
      rw [hacc] at HI hnext
      have HNX := Lib.hid hnext
      obtain ⟨b, o, A', n', c', rfl, e0, e1, e2, e3, hin, hIT⟩ := HL.out.item hil
      obtain ⟨⟨A1, n1, c1, hv, hT⟩, hr, hB, _⟩ := HI.out
      have HIT := Lib.hid hIT
      have HV := Lib.hid hv
      have HT := Lib.hid hT
      have HR := Lib.hid hr
      have HB := Lib.hid hB
      have i0 := (hB.cell (World.block_lt_of_cell? w _ e0)).trans e0
      have i1 := (hB.cell (World.block_lt_of_cell? w _ e1)).trans e1
      have i2 := (hB.cell (World.block_lt_of_cell? w _ e2)).trans e2
      have i3 := (hB.cell (World.block_lt_of_cell? w _ e3)).trans e3
      have z0 := hv.cell 0
      have z1 := hv.cell 1
      have z2 := hv.cell 2
      have z3 := hv.cell 3
      have hq1 : (0 : Int) ≤ (i : Int) := by omega
      have hq2 : (i : Int) < (n : Int) := by omega
      have hw : wrap64 ((i : Int) - 1) = (i : Int) - 1 := by unfold wrap64; omega
      have HW := Lib.hid hw
      have HEI := Lib.hid ei
      have HH := Lib.hid h
      have HJI := Lib.hid hi
      generalize l[i] = x at *
      clear e0 e1 e2 e3 hin hIT hv hT hr hB hnext hil hacc hw hi h
      rw [HEI.out]
      go_upto_region 5 with (fail)
      go_still_tail 5, (by kernel_rfl)
      refine wpList_world (fun V => Below wr.heap.size wr V) (Below.refl _ _).drew ?_
      intro V2 hb2
      have HC := Lib.hid (tcons_v (X := fun k => False ∨ k = Bo ∨ k = w.heap.size) (W := V2)
        (by rintro k (hk | rfl | rfl); exact hk.elim; exact Nat.lt_of_lt_of_le HV.out.lt hb2.size; exact Nat.lt_of_lt_of_le HR.out.lt hb2.size)
        (((HIT.out.weak (Y := fun k => False ∨ k = Bo ∨ k = w.heap.size) (by have := HLT.out; rintro k hk (h9 | rfl | rfl); exact h9; omega; omega)).below HB.out).below hb2) (HT.out.below hb2))
      have HB2 := Lib.hid hb2
      clear hb2
      go_wp2_with (go_at_call 56; refine HC.out.mono ?_; rintro e w5 ⟨v, rfl, hT5, hb5⟩; obtain ⟨A5, n5, c5, rfl, hn5⟩ := hT5.form; have HT5 := Lib.hid hT5; have HB5 := Lib.hid (below_step HB2.out hb5); have hv5 := HV.out.keep HB5.out; have HV5 := Lib.hid hv5; have y0 := hv5.cell 0; have y1 := hv5.cell 1; have y2 := hv5.cell 2; have y3 := hv5.cell 3; have f0 := hv5.frozen 0; have f1 := hv5.frozen 1; have f2 := hv5.frozen 2; have f3 := hv5.frozen 3; have hw := HW.out; clear hT5 hb5 hn5 hv5)
      go_roundw
      case rel =>
        have hset := HV5.out.set4 (.int .i64 (tC x acc).kind) (.int .i64 (tC x acc).int) (.string ⟨(tC x acc).name.toArray⟩) (.slice A5 n5 c5)
        have hf4 := fr_set4 w5 Bo (.int .i64 (tC x acc).kind) (.int .i64 (tC x acc).int) (.string ⟨(tC x acc).name.toArray⟩) (.slice A5 n5 c5)
        refine ⟨j + 1, by have := HEI.out; simp; omega, by have := HH.out; omega, ?_⟩
        rw [HNX.out]
        refine ⟨⟨A5, n5, c5, hset, HT5.out.step hf4 (fun k _ hk => .inr (.inl hk))⟩, ?_, ?_, Nat.zero_le _⟩
        · have hne : w.heap.size ≠ Bo := by have := HLT.out; omega
          exact ((((HR.out.keep HB5.out).far hne _).far hne _).far hne _).far hne _
        · have hbx := below_step HB.out HB5.out
          exact hbx.trans (hf4.below hbx.size (fun k hk => by have := HLT.out; omega))
      case measure => simp
    · obtain rfl : j = n := by omega
      have hd : decide ((0 : Int) ≤ (j : Int) - 1 - (j : Int)) = false := by simp; omega
      have hfin : lstE (l.drop (j - j)) tN = lstT l := by rw [Nat.sub_self, List.drop_zero]; rfl
      rw [hfin] at HI
      obtain ⟨⟨A1, n1, c1, hv, hT⟩, hr, hB, _⟩ := HI.out
      have HT := Lib.hid hT
      have HR := Lib.hid hr
      have HB := Lib.hid hB
      have z0 := hv.cell 0
      have z1 := hv.cell 1
      have z2 := hv.cell 2
      have z3 := hv.cell 3
      have r0 := hr.cell 0
      have r1 := hr.cell 1
      have r2 := hr.cell 2
      have r3 := hr.cell 3
      have f0 := hr.frozen 0
      have f1 := hr.frozen 1
      have f2 := hr.frozen 2
      have f3 := hr.frozen 3
      clear hv hT hr hB hfin h HI
      go_wp2
      have hB2 := HR.out.set4 (.int .i64 (lstT l).kind) (.int .i64 (lstT l).int) (.string ⟨(lstT l).name.toArray⟩) (.slice A1 n1 c1)
      have y0 := hB2.cell 0
      have y1 := hB2.cell 1
      have y2 := hB2.cell 2
      have y3 := hB2.cell 3
      refine bodyPost_ret (v := .agg #[.int .i64 (lstT l).kind, .int .i64 (lstT l).int, .string ⟨(lstT l).name.toArray⟩, .slice A1 n1 c1]) (by simp [results, Try.results30, go_sem, y0, y1, y2, y3]) rfl ?_
      have hf4 := fr_set4 wr w.heap.size (.int .i64 (lstT l).kind) (.int .i64 (lstT l).int) (.string ⟨(lstT l).name.toArray⟩) (.slice A1 n1 c1)
      exact ⟨A1, n1, c1, rfl, (HT.out.step hf4 (fun k _ hk => .inr (.inr hk))).val, HB.out.trans (hf4.below HB.out.size (fun k hk => by rw [hk]; exact Nat.le_refl _))⟩
end

def Yes (w : World) (e : Ending) (w' : World) : Prop := e = .returned (.bool true) ∧ Below w.heap.size w w'
def one : TV := tC (tI 1) tN
theorem one_eq : lstT [tI 1] = one := rfl
theorem one_check : checkP [one, one] = 0 := by decide +kernel
theorem one_lay : (layS [one, one]).1.ws = [8, 4] ∧ (layS [one, one]).1.nm = [] ∧ (layS [one, one]).2 = [5, 5] := by decide +kernel
theorem one_read : readP [8, 4] [] [5, 5] = .ok [one, one] := by
  have e1 : ∀ left, rdT [8, 4] [] 0 8 (left + 1) = .ok (tI 1, left) := fun left => by rw [rdT]; simp [leafP]
  have e2 : ∀ left, rdT [8, 4] [] 0 4 (left + 1) = .ok (tN, left) := fun left => by rw [rdT]; simp [leafP]
  have e3 : ∀ left, rdT [8, 4] [] 2 5 (left + 3) = .ok (one, left) := fun left => by
    rw [rdT]
    simp [cellP, rdL, e1, e2]
    rfl
  unfold readP
  simp only [List.length_cons, List.length_nil]
  rw [if_neg (by omega)]
  simp only [rdL]
  rw [e3 4093]
  simp only
  rw [e3 4090]
theorem bad_read : readP [] [] [5] = .error 90 := by
  unfold readP
  simp only [List.length_cons, List.length_nil]
  rw [if_neg (by omega)]
  simp only [rdL]
  rw [rdT]
  simp
theorem one_same : sameH [8, 4] [5, 5] [] [8, 4] [5, 5] [] = true := by decide
theorem hrows_one : rowsB [one, one] [one, one] = true := by decide +kernel

theorem own_caps {W : World} {base e size n c : Nat} {A : Option Addr} {xs : List Value} (h : W.ownsRow base e size (.slice A n c) n xs) : n ≤ c ∧ c ≤ 9223372036854775807 := by
  rcases h.2 with ⟨hv, rfl⟩ | ⟨g, cap, cur, hv, _, _, h4, h5, _⟩
  · obtain ⟨_, _, rfl⟩ := Value.slice.inj hv; omega
  · obtain ⟨_, _, rfl⟩ := Value.slice.inj hv; unfold maxLen at h5; exact ⟨h4, h5⟩
theorem HOwn.hrd {B : Nat} {W : World} {Aw Aa Ar : Option Addr} {cw ca cr lw la lr : Nat} {ws rs : List Nat} {nm : List (List UInt8)} (h : HOwn B W (.slice Aw lw cw) (.slice Aa la ca) (.slice Ar lr cr) ws nm rs) (hw : W64 ws) (hr : W64 rs) (h1 : ws.length = lw) (h2 : nm.length = la) (h3 : rs.length = lr) : HRd W Aw lw cw Aa la ca Ar lr cr ws nm rs := by
  have a := h.w; have b := h.a; have c := h.r
  rw [h1] at a; rw [h2] at b; rw [h3] at c
  exact { w := rdc_own a, a := rdc_own b, r := rdc_own c, hlw := h1, hla := h2, hlr := h3, hcw := own_caps a, hca := own_caps b, hcr := own_caps c, w64 := hw, r64 := hr }
theorem lval_one {V : World} {g : Nat} {k n : Int} {s : List UInt8} {A : Option Addr} {m c : Nat} {t : TV} (hB : Blk V g 37 #[.int .i64 k, .int .i64 n, .string ⟨s.toArray⟩, .slice A m c]) (h : TVal V (.agg #[.int .i64 k, .int .i64 n, .string ⟨s.toArray⟩, .slice A m c]) t) : RdM V (some ⟨g, 0, none⟩) 1 [t] :=
  ⟨Nat.le_refl _, by omega, .inr ⟨g, 0, rfl, (std_one h).row V g 0 (fun _ _ => rfl) fun j hj => by rw [Nat.zero_add, hB.cell]; simp at hj ⊢⟩⟩
theorem lval_two {V : World} {g : Nat} {k n k' n' : Int} {s s' : List UInt8} {A A' : Option Addr} {m c m' c' : Nat} {t t' : TV} (hB : Blk V g 37 #[.int .i64 k, .int .i64 n, .string ⟨s.toArray⟩, .slice A m c, .int .i64 k', .int .i64 n', .string ⟨s'.toArray⟩, .slice A' m' c']) (h : TVal V (.agg #[.int .i64 k, .int .i64 n, .string ⟨s.toArray⟩, .slice A m c]) t) (h' : TVal V (.agg #[.int .i64 k', .int .i64 n', .string ⟨s'.toArray⟩, .slice A' m' c']) t') : RdM V (some ⟨g, 0, none⟩) 2 [t, t'] :=
  ⟨Nat.le_refl _, by omega, .inr ⟨g, 0, rfl, ((std_one h).append (std_one h')).row V g 0 (fun _ _ => rfl) fun j hj => by rw [Nat.zero_add, hB.cell]; simp at hj ⊢⟩⟩
theorem one_named : TV.namedL [one, one] := by simp [one, tC, tI, tN, TV.namedL, TV.named]
set_option maxRecDepth 100000 in
set_option maxHeartbeats 4000000 in
theorem live_any (w : World) : Calls Try.prog 10 #[] w (Yes w) := by
  have HLS : Hid (∀ V : World, Calls Try.prog 30 #[.slice (some ⟨V.heap.size, 0, none⟩) 1 1] (V.alloc (.cells #[.int .i64 1, .int .i64 1, .string ⟨#[]⟩, .slice none 0 0] 37)) fun e w' => ∃ A9 n9 c9, e = .returned (.agg #[.int .i64 8, .int .i64 0, .string ⟨#[]⟩, .slice A9 n9 c9]) ∧ TVal w' (.agg #[.int .i64 8, .int .i64 0, .string ⟨#[]⟩, .slice A9 n9 c9]) one ∧ Below V.heap.size V w') := fun V =>
    (tlist_v (l := [tI 1]) ⟨_, 1, 1, rfl, rfl, lval_one (s := []) (Blk.new V _ _) (tval_i _ 1)⟩ (by simp)).mono fun e w' ⟨A9, n9, c9, h1, h2, h3⟩ => ⟨A9, n9, c9, h1, h2, (below_alloc _ _).trans (h3.mono (below_alloc V _).size)⟩
  go_enter Try.func10, Try.ntmps10
  go_upto_region 2 with (first
    | (go_at_call 31; refine (tint_any 1 _).mono ?_; rintro e w1 ⟨rfl, hb1⟩)
    | (go_at_call 30; refine (HLS.out _).mono ?_; rintro e w2 ⟨A9, n9, c9, rfl, hT2, hb2⟩))
  obtain ⟨g1, hg1⟩ : ∃ g, w2.heap.size = g := ⟨_, rfl⟩
  rw [hg1]
  refine wp_world (fun V => Below w.heap.size w V ∧ Blk V g1 37 #[.int .i64 8, .int .i64 0, .string ⟨#[]⟩, .slice A9 n9 c9] ∧ TVal V (.agg #[.int .i64 8, .int .i64 0, .string ⟨#[]⟩, .slice A9 n9 c9]) one) ⟨below_step (below_step hb1 hb2) (below_alloc _ _), by rw [← hg1]; exact Blk.new _ _ _, hT2.below (below_alloc _ _)⟩ ?_
  clear hb1 hb2 hT2 hg1 HLS
  rintro V1 ⟨hb, hk, hT⟩
  have HB := Lib.hid hb
  have HK := Lib.hid hk
  have HT := Lib.hid hT
  have HLAY := Lib.hid (hlay_v [one, one] (some ⟨V1.heap.size, 0, none⟩) 2 2 (V1.alloc (.cells #[.int .i64 8, .int .i64 0, .string ⟨#[]⟩, .slice A9 n9 c9, .int .i64 8, .int .i64 0, .string ⟨#[]⟩, .slice A9 n9 c9] 37)) rfl one_named (lval_two (s := []) (s' := []) (Blk.new V1 _ _) (hT.below (below_alloc _ _)) (hT.below (below_alloc _ _))))
  have x0 := hk.cell 0
  have x1 := hk.cell 1
  have x2 := hk.cell 2
  have x3 := hk.cell 3
  clear hb hk hT
  go_upto_region 3 with (go_at_call 11; refine HLAY.out.mono ?_; rintro e w2 ⟨hb2, hq⟩; rcases hq with ⟨hq, _⟩ | ⟨_, vw, va, vr, rfl, ho⟩; (exact absurd one_check hq); obtain ⟨y1, y2, y3⟩ := one_lay; rw [y1, y2, y3] at ho; obtain ⟨Aw, cw, rfl⟩ := own_sl ho.w; obtain ⟨Aa, ca, rfl⟩ := own_sl ho.a; obtain ⟨Ar, cr, rfl⟩ := own_sl ho.r; have HR := Lib.hid (HOwn.hrd (lw := 2) (la := 0) (lr := 2) ho (by intro x hx; simp at hx; omega) (by intro x hx; simp at hx; omega) rfl rfl rfl); clear ho y1 y2 y3)
  obtain ⟨g2, hg2⟩ : ∃ g, w2.heap.size = g := ⟨_, rfl⟩
  rw [hg2]
  have hbx := below_step (below_alloc V1 _) hb2
  refine wp_world (fun V => Below w.heap.size w V ∧ Blk V g1 37 #[.int .i64 8, .int .i64 0, .string ⟨#[]⟩, .slice A9 n9 c9] ∧ TVal V (.agg #[.int .i64 8, .int .i64 0, .string ⟨#[]⟩, .slice A9 n9 c9]) one ∧ Blk V g2 29 #[.slice Aw 2 cw, .slice Aa 0 ca, .slice Ar 2 cr] ∧ HRd V Aw 2 cw Aa 0 ca Ar 2 cr [8, 4] [] [5, 5]) ⟨below_step (below_step HB.out hbx) (below_alloc _ _), (HK.out.keep hbx).alloc _, (HT.out.below hbx).below (below_alloc _ _), by rw [← hg2]; exact Blk.new _ _ _, HR.out.below (below_alloc _ _)⟩ ?_
  clear HB HK HT HLAY hb2 hbx hg2 HR x0 x1 x2 x3
  rintro V2 ⟨hb, hk, hT, hk2, hR⟩
  have HB := Lib.hid hb
  have HK := Lib.hid hk
  have HT := Lib.hid hT
  have HK2 := Lib.hid hk2
  have HR := Lib.hid hR
  have HRD := Lib.hid (hread_v V2 hR)
  rw [one_read] at HRD
  have x0 := hk2.cell 0
  have x1 := hk2.cell 1
  have x2 := hk2.cell 2
  clear hb hk hT hk2 hR
  go_upto_region 4 with (go_at_call 16; refine HRD.out.mono ?_; rintro e w2 ⟨hb2, _, hq⟩; obtain ⟨Al, cl, rfl, hL⟩ := (show ∃ A c, e = .returned (.tuple #[.slice A 2 c, .int .i64 0]) ∧ LEx (fun k => k < V2.heap.size) w2 (.slice A 2 c) [one, one] from hq [one, one] rfl))
  have HLV := Lib.hid hL.val
  refine wp_world (fun V => Below w.heap.size w V ∧ (Blk V g1 37 #[.int .i64 8, .int .i64 0, .string ⟨#[]⟩, .slice A9 n9 c9] ∧ TVal V (.agg #[.int .i64 8, .int .i64 0, .string ⟨#[]⟩, .slice A9 n9 c9]) one) ∧ (Blk V g2 29 #[.slice Aw 2 cw, .slice Aa 0 ca, .slice Ar 2 cr] ∧ HRd V Aw 2 cw Aa 0 ca Ar 2 cr [8, 4] [] [5, 5]) ∧ LVal V (.slice Al 2 cl) [one, one]) ⟨below_step HB.out hb2, ⟨HK.out.keep hb2, HT.out.below hb2⟩, ⟨HK2.out.keep hb2, HR.out.below hb2⟩, HLV.out⟩ ?_
  clear HB HK HT HK2 HR HRD hb2 hL HLV x0 x1 x2
  rintro V3 ⟨hb, ⟨hk, hT⟩, ⟨hk2, hR⟩, hL⟩
  have HB := Lib.hid hb
  have HK := Lib.hid hk
  have HT := Lib.hid hT
  have HK2 := Lib.hid hk2
  have HR := Lib.hid hR
  have HL := Lib.hid hL
  have HBD : Hid (∀ V, Blk V V3.heap.size 34 #[.int .u64 5] → Calls Try.prog 16 #[.agg #[.slice none 0 0, .slice none 0 0, .slice (some ⟨V3.heap.size, 0, none⟩) 1 1]] V (ReadEnds V (.error 90))) := fun V hV => by
    rw [← bad_read]
    exact hread_v V { w := .inl rfl, a := .inl rfl, r := .inr ⟨V3.heap.size, 0, rfl, fun j v hj => by rw [Nat.zero_add, hV.cell]; cases j with | zero => simpa [nv] using hj | succ j => simp at hj⟩, hlw := rfl, hla := rfl, hlr := rfl, hcw := by omega, hca := by omega, hcr := by omega, w64 := (by intro x hx; cases hx), r64 := (by intro x hx; simp at hx; omega) }
  clear hb hk hT hk2 hR hL
  go_upto_region 5 with (go_at_call 16; refine (HBD.out _ (Blk.new V3 _ _)).mono ?_; rintro e w2 ⟨hb2, hq, _⟩; obtain ⟨_, rfl⟩ := hq 90 rfl)
  have hbx := below_step (below_alloc V3 _) hb2
  refine wp_world (fun V => Below w.heap.size w V ∧ (Blk V g1 37 #[.int .i64 8, .int .i64 0, .string ⟨#[]⟩, .slice A9 n9 c9] ∧ TVal V (.agg #[.int .i64 8, .int .i64 0, .string ⟨#[]⟩, .slice A9 n9 c9]) one) ∧ (Blk V g2 29 #[.slice Aw 2 cw, .slice Aa 0 ca, .slice Ar 2 cr] ∧ HRd V Aw 2 cw Aa 0 ca Ar 2 cr [8, 4] [] [5, 5]) ∧ LVal V (.slice Al 2 cl) [one, one]) ⟨below_step HB.out hbx, ⟨HK.out.keep hbx, HT.out.below hbx⟩, ⟨HK2.out.keep hbx, HR.out.below hbx⟩, HL.out.below hbx⟩ ?_
  clear HB HK HT HK2 HR HL hb2 hbx HBD
  rintro V4 ⟨hb, ⟨hk, hT⟩, ⟨hk2, hR⟩, hL⟩
  have HB := Lib.hid hb
  have HK := Lib.hid hk
  have HSM : Hid (∀ V gA gB, Below V4.heap.size V4 V → Blk V gA 34 #[.int .u64 8, .int .u64 4] → Blk V gB 34 #[.int .u64 5, .int .u64 5] → Calls Try.prog 19 #[.agg #[.slice Aw 2 cw, .slice Aa 0 ca, .slice Ar 2 cr], .agg #[.slice (some ⟨gA, 0, none⟩) 2 2, .slice none 0 0, .slice (some ⟨gB, 0, none⟩) 2 2]] V fun e w' => e = .returned (.bool true) ∧ Below V.heap.size V w') := fun V gA gB hV hA hB => by
    have h9 := rSame_v V (hR.below hV) (ws' := [8, 4]) (rs' := [5, 5]) (nm' := []) (Bw := some ⟨gA, 0, none⟩) (mw := 2) (dw := 2) (Ba := none) (ma := 0) (da := 0) (Br := some ⟨gB, 0, none⟩) (mr := 2) (dr := 2) { w := .inr ⟨gA, 0, rfl, fun j v hj => (by rw [Nat.zero_add, hA.cell]; match j, hj with | 0, hj => simpa [nv] using hj | 1, hj => simpa [nv] using hj | j + 2, hj => simp at hj)⟩, a := .inl rfl, r := .inr ⟨gB, 0, rfl, fun j v hj => (by rw [Nat.zero_add, hB.cell]; match j, hj with | 0, hj => simpa [nv] using hj | 1, hj => simpa [nv] using hj | j + 2, hj => simp at hj)⟩, hlw := rfl, hla := rfl, hlr := rfl, hcw := by omega, hca := by omega, hcr := by omega, w64 := (by intro x hx; simp at hx; omega), r64 := (by intro x hx; simp at hx; omega) } (by omega) (by omega)
    rw [one_same] at h9
    exact h9
  have HRW : Hid (∀ V g, Below V4.heap.size V4 V → Blk V g 37 #[.int .i64 8, .int .i64 0, .string ⟨#[]⟩, .slice A9 n9 c9, .int .i64 8, .int .i64 0, .string ⟨#[]⟩, .slice A9 n9 c9] → Calls Try.prog 20 #[.slice Al 2 cl, .slice (some ⟨g, 0, none⟩) 2 2] V fun e w' => e = .returned (.bool true) ∧ Below V.heap.size V w') := fun V g hV hB => by
    obtain ⟨A', n', c', e9, _, hR9⟩ := hL.below hV
    obtain ⟨rfl, rfl, rfl⟩ := Value.slice.inj e9
    have h9 := rows_any [one, one] [one, one] Al 2 cl (some ⟨g, 0, none⟩) 2 2 V V rfl rfl (Below.refl _ _) hR9 (lval_two (s := []) (s' := []) hB (hT.below hV) (hT.below hV))
    rw [hrows_one] at h9
    exact h9
  have x0 := hk.cell 0
  have x1 := hk.cell 1
  have x2 := hk.cell 2
  have x3 := hk.cell 3
  have h0 := hk2.cell 0
  have h1 := hk2.cell 1
  have h2 := hk2.cell 2
  clear hb hk hT hk2 hR hL
  go_wp2_with (first
    | (go_at_call 12; refine (hnum_v _ _).mono ?_; rintro e w' ⟨rfl, rfl⟩)
    | (go_at_call 19; refine (HSM.out _ _ _ (below_step (below_alloc _ _) (below_alloc _ _)) ((Blk.new _ _ _).alloc _) (Blk.newAt (by simp))).mono ?_; rintro e w6 ⟨rfl, hb6⟩; have HB6 := Lib.hid (below_step (below_step (below_alloc V4 _) (below_alloc _ _)) hb6); have x0 := (HK.out.keep HB6.out).cell 0; have x1 := (HK.out.keep HB6.out).cell 1; have x2 := (HK.out.keep HB6.out).cell 2; have x3 := (HK.out.keep HB6.out).cell 3; clear hb6)
    | (go_at_call 20; refine (HRW.out _ _ (below_step HB6.out (below_alloc _ _)) (Blk.new _ _ _)).mono ?_; rintro e w7 ⟨rfl, hb7⟩))
  go_ret
  exact ⟨rfl, below_step HB.out (below_step (below_step HB6.out (below_alloc _ _)) hb7)⟩
theorem live_from {w W : World} (h : Below w.heap.size w W) : Calls Try.prog 10 #[] W (Yes w) :=
  (live_any W).mono fun e w' ⟨he, hb⟩ => ⟨he, below_step h hb⟩
end Go.Proofs.Ytefnjplfemgibaa
