/- Lists as terms, the document's List (ArK's and ArZ's rows that Match wants). -/
import Derived.Test.YtmpknhdfglbocaaGreatPCmp
import Derived.StillTailTactics
namespace Go.Proofs.YtmpknhdfglbocaaGreat
open Go.RowKit
set_option linter.unusedVariables false

def lstE (l : List TV) (e : TV) : TV := l.foldr tC e
def lstT (l : List TV) : TV := lstE l tN
/-- What the loop keeps: the box Bo holds the list made so far, the block Br the result's cells. -/
def LI (X : Nat → Prop) (w : World) (Bo Br n1 : Nat) (acc : TV) (W : World) : Prop :=
  (∃ A n c, Blk W Bo 35 #[.int .i64 acc.kind, .int .i64 acc.int, .string ⟨acc.name.toArray⟩, .slice A n c] ∧ TEx (fun k => X k ∨ k = Bo ∨ k = Br) W (.agg #[.int .i64 acc.kind, .int .i64 acc.int, .string ⟨acc.name.toArray⟩, .slice A n c]) acc) ∧
  Blk W Br 35 #[.int .i64 0, .int .i64 0, .string ⟨#[]⟩, .slice none 0 0] ∧ Below w.heap.size w W ∧ n1 ≤ W.heap.size
section
variable {w W V V' : World} {u u1 u2 : Value} {t t1 t2 : TV}
theorem kept_all (V : World) : Kept V (ers (fun _ => False) V) := kept_of fun p v h => (ers_cell _ _ _).2 ⟨fun h => h, h⟩
theorem LVal.lex {l : List TV} (h : LVal V u l) : LEx (fun _ => False) V u l := LVal.kept h (kept_all V)
set_option maxRecDepth 100000 in
set_option maxHeartbeats 2000000 in
theorem tlist_v {A : Option Addr} {n c : Nat} {l : List TV} (hL : LVal w (.slice A n c) l) (hlen : l.length ≤ 1000000) : Calls Tryz.prog 22 #[.slice A n c] w fun e w' => ∃ A9 n9 c9, e = .returned (.agg #[.int .i64 (lstT l).kind, .int .i64 (lstT l).int, .string ⟨(lstT l).name.toArray⟩, .slice A9 n9 c9]) ∧ TVal w' (.agg #[.int .i64 (lstT l).kind, .int .i64 (lstT l).int, .string ⟨(lstT l).name.toArray⟩, .slice A9 n9 c9]) (lstT l) ∧ Below w.heap.size w w' := by
  have hl : l.length = n := by obtain ⟨A', n', c', e, h, h3⟩ := hL; obtain ⟨rfl, rfl, rfl⟩ := Value.slice.inj e; exact h
  obtain ⟨hlc, hcm⟩ : n ≤ c ∧ c ≤ 9223372036854775807 := by obtain ⟨A', n', c', e, h, h3⟩ := hL; obtain ⟨rfl, rfl, rfl⟩ := Value.slice.inj e; exact ⟨by have := h3.1; omega, h3.2.1⟩
  have HL := Lib.hid hL.lex
  have HLN := Lib.hid hl
  have hn : n ≤ 1000000 := by omega
  have hw : wrap64 ((n : Int) - 1) = (n : Int) - 1 := by unfold wrap64; omega
  clear hL hl hlen
  go_enter Tryz.func22, Tryz.ntmps22
  go_upto_region 2 with (go_at_call 39; refine (tnil_v _).mono ?_; rintro e w1 ⟨rfl, hb1⟩)
  obtain ⟨Bo, hBo⟩ : ∃ g, w1.heap.size = g := ⟨_, rfl⟩
  rw [hBo]
  refine wp_world (fun V => LI (fun _ => False) w Bo w.heap.size 0 tN V ∧ w.heap.size < Bo) (by
    have hs := hb1.size
    rw [← hBo]
    exact ⟨⟨⟨none, 0, 0, Blk.new _ _ _, tex_n _ _⟩, ((Blk.new w _ _).keep hb1).alloc _, below_step (below_step (below_alloc _ _) hb1) (below_alloc _ _), Nat.zero_le _⟩, by simp at hs; omega⟩) ?_
  clear hb1 hBo
  rintro V0 ⟨hI, hlt0⟩
  have HI0 := Lib.hid hI
  have HLT := Lib.hid hlt0
  clear hI hlt0
  go_upto_region 3 with (fail)
  clear hw
  go_loopw [4] (fun v wr => ∃ j : Nat, v = .int .i64 ((n : Int) - 1 - j) ∧ j ≤ n ∧ Hid (LI (fun _ => False) w Bo w.heap.size 0 (lstE (l.drop (n - j)) tN) wr)) (fun v _ => match v with | .int _ i => (i + 1).toNat | _ => 0)
  case atStart => exact ⟨0, by simp, by omega, by
    show LI _ _ _ _ _ (lstE (l.drop (n - 0)) tN) _
    rw [Nat.sub_zero, List.drop_eq_nil_of_le (by rw [HLN.out]; exact Nat.le_refl _)]
    exact HI0.out⟩
  case round =>
    obtain ⟨j, rfl, hj, HI⟩ := hrel
    by_cases h : j < n
    · obtain ⟨i, hi⟩ : ∃ i, i = n - 1 - j := ⟨_, rfl⟩
      have ei : (n : Int) - 1 - (j : Int) = (i : Int) := by omega
      have hd : decide ((0 : Int) ≤ (i : Int)) = true := by simp
      have hil : i < l.length := by rw [HLN.out]; omega
      have hnext : lstE (l.drop (n - (j + 1))) tN = tC l[i] (lstE (l.drop (n - j)) tN) := by
        rw [show n - (j + 1) = i by omega, List.drop_eq_getElem_cons hil, show i + 1 = n - j by omega]
        rfl
      obtain ⟨acc, hacc⟩ : ∃ a, lstE (l.drop (n - j)) tN = a := ⟨_, rfl⟩
      rw [hacc] at HI hnext
      have HNX := Lib.hid hnext
      obtain ⟨b, o, A', n', c', rfl, e0, e1, e2, e3, hin, hIT⟩ := HL.out.item hil
      obtain ⟨⟨A1, n1, c1, hv, hT⟩, hr, hB, _⟩ := HI.out
      have HIT := Lib.hid hIT
      have HV := Lib.hid hv
      have HT := Lib.hid hT
      have HR := Lib.hid hr
      have HB := Lib.hid hB
      have i0 := (hB.cell (World.block_lt_of_cell? w _ e0)).trans e0
      have i1 := (hB.cell (World.block_lt_of_cell? w _ e1)).trans e1
      have i2 := (hB.cell (World.block_lt_of_cell? w _ e2)).trans e2
      have i3 := (hB.cell (World.block_lt_of_cell? w _ e3)).trans e3
      have z0 := hv.cell 0
      have z1 := hv.cell 1
      have z2 := hv.cell 2
      have z3 := hv.cell 3
      have hq1 : (0 : Int) ≤ (i : Int) := by omega
      have hq2 : (i : Int) < (n : Int) := by omega
      have hw : wrap64 ((i : Int) - 1) = (i : Int) - 1 := by unfold wrap64; omega
      have HW := Lib.hid hw
      have HEI := Lib.hid ei
      have HH := Lib.hid h
      have HJI := Lib.hid hi
      generalize l[i] = x at *
      clear e0 e1 e2 e3 hin hIT hv hT hr hB hnext hil hacc hw hi h
      rw [HEI.out]
      go_upto_region 5 with (fail)
      go_still_tail 5, (by kernel_rfl)
      refine wpList_world (fun V => Below wr.heap.size wr V) (Below.refl _ _).drew ?_
      intro V2 hb2
      have HC := Lib.hid (tcons_v (X := fun k => False ∨ k = Bo ∨ k = w.heap.size) (W := V2)
        (by rintro k (hk | rfl | rfl); exact hk.elim; exact Nat.lt_of_lt_of_le HV.out.lt hb2.size; exact Nat.lt_of_lt_of_le HR.out.lt hb2.size)
        (((HIT.out.weak (Y := fun k => False ∨ k = Bo ∨ k = w.heap.size) (by have := HLT.out; rintro k hk (h9 | rfl | rfl); exact h9; omega; omega)).below HB.out).below hb2) (HT.out.below hb2))
      have HB2 := Lib.hid hb2
      clear hb2
      go_wp2_with (go_at_call 40; refine HC.out.mono ?_; rintro e w5 ⟨v, rfl, hT5, hb5⟩; obtain ⟨A5, n5, c5, rfl, hn5⟩ := hT5.form; have HT5 := Lib.hid hT5; have HB5 := Lib.hid (below_step HB2.out hb5); have hv5 := HV.out.keep HB5.out; have HV5 := Lib.hid hv5; have y0 := hv5.cell 0; have y1 := hv5.cell 1; have y2 := hv5.cell 2; have y3 := hv5.cell 3; have f0 := hv5.frozen 0; have f1 := hv5.frozen 1; have f2 := hv5.frozen 2; have f3 := hv5.frozen 3; have hw := HW.out; clear hT5 hb5 hn5 hv5)
      go_roundw
      case rel =>
        have hset := HV5.out.set4 (.int .i64 (tC x acc).kind) (.int .i64 (tC x acc).int) (.string ⟨(tC x acc).name.toArray⟩) (.slice A5 n5 c5)
        have hf4 := fr_set4 w5 Bo (.int .i64 (tC x acc).kind) (.int .i64 (tC x acc).int) (.string ⟨(tC x acc).name.toArray⟩) (.slice A5 n5 c5)
        refine ⟨j + 1, by have := HEI.out; simp; omega, by have := HH.out; omega, ?_⟩
        rw [HNX.out]
        refine ⟨⟨A5, n5, c5, hset, HT5.out.step hf4 (fun k _ hk => .inr (.inl hk))⟩, ?_, ?_, Nat.zero_le _⟩
        · have hne : w.heap.size ≠ Bo := by have := HLT.out; omega
          exact ((((HR.out.keep HB5.out).far hne _).far hne _).far hne _).far hne _
        · have hbx := below_step HB.out HB5.out
          exact hbx.trans (hf4.below hbx.size (fun k hk => by have := HLT.out; omega))
      case measure => simp
    · obtain rfl : j = n := by omega
      have hd : decide ((0 : Int) ≤ (j : Int) - 1 - (j : Int)) = false := by simp; omega
      have hfin : lstE (l.drop (j - j)) tN = lstT l := by rw [Nat.sub_self, List.drop_zero]; rfl
      rw [hfin] at HI
      obtain ⟨⟨A1, n1, c1, hv, hT⟩, hr, hB, _⟩ := HI.out
      have HT := Lib.hid hT
      have HR := Lib.hid hr
      have HB := Lib.hid hB
      have z0 := hv.cell 0
      have z1 := hv.cell 1
      have z2 := hv.cell 2
      have z3 := hv.cell 3
      have r0 := hr.cell 0
      have r1 := hr.cell 1
      have r2 := hr.cell 2
      have r3 := hr.cell 3
      have f0 := hr.frozen 0
      have f1 := hr.frozen 1
      have f2 := hr.frozen 2
      have f3 := hr.frozen 3
      clear hv hT hr hB hfin h HI
      go_wp2
      have hB2 := HR.out.set4 (.int .i64 (lstT l).kind) (.int .i64 (lstT l).int) (.string ⟨(lstT l).name.toArray⟩) (.slice A1 n1 c1)
      have y0 := hB2.cell 0
      have y1 := hB2.cell 1
      have y2 := hB2.cell 2
      have y3 := hB2.cell 3
      refine bodyPost_ret (v := .agg #[.int .i64 (lstT l).kind, .int .i64 (lstT l).int, .string ⟨(lstT l).name.toArray⟩, .slice A1 n1 c1]) (by simp [results, Tryz.results22, go_sem, y0, y1, y2, y3]) rfl ?_
      have hf4 := fr_set4 wr w.heap.size (.int .i64 (lstT l).kind) (.int .i64 (lstT l).int) (.string ⟨(lstT l).name.toArray⟩) (.slice A1 n1 c1)
      exact ⟨A1, n1, c1, rfl, (HT.out.step hf4 (fun k _ hk => .inr (.inr hk))).val, HB.out.trans (hf4.below HB.out.size (fun k hk => by rw [hk]; exact Nat.le_refl _))⟩
end
end Go.Proofs.YtmpknhdfglbocaaGreat
