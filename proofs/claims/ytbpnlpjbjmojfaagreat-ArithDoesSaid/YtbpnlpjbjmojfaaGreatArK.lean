/- Arith (layer 14): term.List, behind: lists made of slices. -/
import Derived.Test.YtbpnlpjbjmojfaaGreatArJ
namespace Go.Proofs.YtbpnlpjbjmojfaaGreat
open Go.RowKit Go.Shelf
attribute [local go_sem] Oper.semAt_some
set_option linter.unusedVariables false

/-- Elements ahead of an end. -/
def lstE (l : List TV) (e : TV) : TV := l.foldr tC e
def lstT (l : List TV) : TV := lstE l tN
theorem foldl_rev (l : List TV) (e : TV) : l.reverse.foldl (fun t x => tC x t) e = lstE l e := by
  unfold lstE
  rw [List.foldl_reverse]
section
variable {w W V V' : World} {u u1 u2 : Value} {t t1 t2 : TV}
theorem keeps_of {W W' : World} {F : Nat → Prop} (h : Fr F W W') (hc : ∀ k o, F k → W.heap[k]? = some o → o.isCells = true) : KeepsOthers W W' :=
  ⟨h.size, fun k o hk ho => (h.block k (Array.getElem?_eq_some_iff.1 hk).1 (fun f => by have := hc k o f hk; rw [ho] at this; cases this)).trans hk⟩
/-- The cells' blocks stay when another kind of block turns. -/
theorem kept_row {X : Nat → Prop} {row : Option Nat} (hg : V.grownBy V' row) (hrow : ∀ k, row = some k → ∃ o, V.heap[k]? = some o ∧ o.isCells = false) : Kept (ers X V) (ers X V') := kept_of fun p v hp => by
  obtain ⟨h1, h2⟩ := (ers_cell X V p).1 hp
  refine (ers_cell X V' p).2 ⟨h1, ?_⟩
  have hlt := World.block_lt_of_cell? V p h2
  by_cases e : some p.block = row
  · exfalso
    obtain ⟨o, ho, hc⟩ := hrow _ e.symm
    unfold World.cell? at h2
    rw [ho] at h2
    cases o <;> simp_all [Obj.isCells]
  · exact (World.cell?_of_block (hg.block p.block hlt e)).trans h2
/-- What the loop keeps: the box Bo holds the list made so far, the block Br the result's cells. -/
def LI (X : Nat → Prop) (w : World) (Bo Br n1 : Nat) (acc : TV) (W : World) : Prop :=
  (∃ A n c, Blk W Bo 26 #[.int .i64 acc.kind, .int .i64 acc.int, .string ⟨acc.name.toArray⟩, .slice A n c] ∧ TEx (fun k => X k ∨ k = Bo ∨ k = Br) W (.agg #[.int .i64 acc.kind, .int .i64 acc.int, .string ⟨acc.name.toArray⟩, .slice A n c]) acc) ∧
  Blk W Br 26 #[.int .i64 0, .int .i64 0, .string ⟨#[]⟩, .slice none 0 0] ∧ Below w.heap.size w W ∧ n1 ≤ W.heap.size
theorem blk_row {g ty : Nat} {cs : Array Value} {row : Option Nat} (h : Blk V g ty cs) (hrow : ∀ k, row = some k → ∃ o, V.heap[k]? = some o ∧ o.isCells = false) : some g ≠ row := fun e => by
  obtain ⟨o, ho, hc⟩ := hrow _ e.symm
  unfold Blk at h
  rw [h] at ho
  injection ho with ho
  rw [← ho] at hc
  cases hc
theorem li_own (X : Nat → Prop) (w : World) (Bo Br n1 B : Nat) (hB : w.heap.size ≤ B) {β : Type} (f : β → TV) : OwnFrom B (fun s W => LI X w Bo Br n1 (f s) W) := by
  rintro s W W' row ⟨⟨A, n, c, hv, hT⟩, hr, hb, hn⟩ hg hrow
  have h2 : ∀ k, row = some k → ∃ o, W.heap[k]? = some o ∧ o.isCells = false := fun k hk => (hrow k hk).2
  exact ⟨⟨A, n, c, hv.grown hg (blk_row hv h2), TVal.kept hT (kept_row hg h2)⟩, hr.grown hg (blk_row hr h2), hb.grown hg hb.size (fun k e => Nat.le_trans hB (hrow k e).1), Nat.le_trans hn hg.size⟩

theorem cell_putObj' {W : World} {D : Nat} {o o' : Obj} (h : W.heap[D]? = some o) (ho : o.isCells = false) (ho' : o'.isCells = false) (p : Addr) : (W.putObj D o').cell? p = W.cell? p := by
  by_cases e : p.block = D
  · unfold World.cell?
    rw [e, World.putObj_heap_same (Array.getElem?_eq_some_iff.1 h).1, h]
    have hn : ∀ o : Obj, o.isCells = false → (match some o with | some (.cells c _ _) => if p.spot.isSome then none else c[p.off]? | _ => none) = none := fun o h => by cases o <;> first | rfl | cases h
    exact (hn o' ho').trans (hn o ho).symm
  · exact World.cell?_of_block (World.putObj_heap_other e)
set_option maxRecDepth 100000 in
set_option maxHeartbeats 4000000 in
theorem list_v {X : Nat → Prop} (hX : ∀ k, X k → k < w.heap.size) {A : Option Addr} {len cap : Nat} {L : List TV} (hL : LEx X w (.slice A len cap) L) (hlen : L.length ≤ 1000000) : Calls Tryz.prog 45 #[.slice A len cap] w (R1 X w (lstT L)) := by
  have hl : L.length = len := by obtain ⟨A', n', c', e, h, _⟩ := hL.form; obtain ⟨rfl, rfl, rfl⟩ := Value.slice.inj e; exact h
  obtain ⟨hlc, hcm⟩ : len ≤ cap ∧ cap ≤ 9223372036854775807 := by obtain ⟨A', n', c', e, h, h2, h3⟩ := hL.form; obtain ⟨rfl, rfl, rfl⟩ := Value.slice.inj e; exact ⟨h2, h3⟩
  rw [hl] at hlen
  have HLN := Lib.hid hl
  have HX := Lib.hid hX
  have HBK := Lib.hid (fun W => back_any A len cap W)
  clear hl hX
  have hmx : Tryz.prog.follows .mixedOrders = true := by kernel_rfl
  refine (callsIn_wide (n := 6)).1 ?_
  refine callsIn_of_wp_marks Tryz.func45 rfl trivial ?_ rfl
  simp only [Tryz.ntmps45, List.size_toArray, List.length_cons, List.length_nil, Nat.reduceAdd, Nat.reduceSub, Array.replicate_succ, Array.replicate_zero, List.push_toArray, List.append_toArray, List.nil_append, List.cons_append]
  gi_wp2_with (first
    | (refine ⟨trivial, ?_⟩; gi_at_call 89; refine (callsIn_wide.2 (pnil_v _)).mono ?_; rintro e w1 ⟨rfl, hb1⟩)
    | (refine ⟨trivial, ?_⟩; gi_at_call 90; refine (callsIn_wide.2 (HBK.out _)).mono ?_; rintro e w' ⟨rfl, rfl⟩))
  have hs1 : w.heap.size + 1 ≤ w1.heap.size := by have := hb1.size; simpa using this
  obtain ⟨W0, hW0⟩ : ∃ W0, ((w1.alloc (.cells #[.int .i64 7, .int .i64 0, .string ⟨#[]⟩, .slice none 0 0] 26)).alloc (.cells #[.slice A len cap] 22)) = W0 := ⟨_, rfl⟩
  have hsz : W0.heap.size = w1.heap.size + 2 := by rw [← hW0]; simp
  have hbo : Blk W0 w1.heap.size 26 #[.int .i64 7, .int .i64 0, .string ⟨#[]⟩, .slice none 0 0] := by rw [← hW0]; exact (Blk.new _ _ _).alloc _
  have hbs : Blk W0 (w1.heap.size + 1) 22 #[.slice A len cap] := by rw [← hW0]; exact Blk.newAt (by simp)
  have hbr : Blk W0 w.heap.size 26 #[.int .i64 0, .int .i64 0, .string ⟨#[]⟩, .slice none 0 0] := by rw [← hW0]; exact (((Blk.new w _ _).keep hb1).alloc _).alloc _
  have hB0 : Below w.heap.size w W0 := by rw [← hW0]; exact below_step (below_step (below_step (below_alloc _ _) hb1) (below_alloc _ _)) (below_alloc _ _)
  have hI0 : LI X w w1.heap.size w.heap.size W0.heap.size ((([] : List (Pt X w)).map (fun x => x.t)).foldl (fun t x => tC x t) tN) W0 := ⟨⟨none, 0, 0, hbo, tex_n _ _⟩, hbr, hB0, Nat.le_refl _⟩
  rw [hW0]
  clear hb1 hW0 hbo hbr
  refine wpIn_rangeFunc_ownH rfl (by omega) (gf := 102) (lb := #[.pointer (some ⟨w1.heap.size + 1, 0, none⟩)]) rfl trivial (enters_of Tryz.func102 (by kernel_rfl) rfl)
    (back_stops _ (by omega) (w1.heap.size + 1) W0.heap.size w1.heap.size w A L len cap hL HLN.out hlc hcm hlen (by omega) (by omega) (by omega) (by omega) W0 hB0 (Nat.le_refl _) (hbs.cell 0)) kpC_t (kpC_b (Nat.le_refl _)) (Below.refl _ _) (fun _ => rfl)
    (fun (pre : List (Pt X w)) W => LI X w w1.heap.size w.heap.size W0.heap.size ((pre.map (fun x => x.t)).foldl (fun t x => tC x t) tN) W)
    (fun _ _ _ => False)
    (li_own X w w1.heap.size w.heap.size W0.heap.size W0.heap.size (by omega) (fun pre : List (Pt X w) => (pre.map (fun x => x.t)).foldl (fun t x => tC x t) tN))
    (fun _ _ _ _ _ hs _ _ => hs)
    hI0
    (fun x a' W => ∃ Bt, (Blk W Bt 26 #[.int .i64 x.t.kind, .int .i64 x.t.int, .string ⟨x.t.name.toArray⟩, .slice x.A x.n x.c] ∧ Bt ≠ w1.heap.size ∧ Bt ≠ w.heap.size) ∧ a' = { tmps := #[.slice A len cap, undef, .pointer (some ⟨w.heap.size, 0, none⟩), .pointer (some ⟨w1.heap.size, 0, none⟩), undef, .pointer (some ⟨Bt, 0, none⟩), .agg #[.int .i64 7, .int .i64 0, .string ⟨#[]⟩, .slice none 0 0], .slice A len cap,
      .func (.func 102) #[] #[.pointer (some ⟨w1.heap.size + 1, 0, none⟩)], .int .i64 x.idx, .agg #[.int .i64 x.t.kind, .int .i64 x.t.int, .string ⟨x.t.name.toArray⟩, .slice x.A x.n x.c], undef, undef, undef, undef], defers := [] }) ?ax ?assign ?body ?done ?stop
  case ax =>
    rintro x a' _ W W' row ⟨Bt, ⟨h1, h2⟩, h5⟩ hg hrow
    exact ⟨Bt, ⟨h1.grown hg (blk_row h1 (fun k hk => (hrow k hk).2)), h2⟩, h5⟩
  case assign =>
    rintro l pre x W K hI hK
    unfold ptEnc
    gi_wp2
    have hI' := hI
    obtain ⟨⟨A1, n1, c1, hv, hT⟩, hr, hB, hn1⟩ := hI
    exact hK _ _ ((KeepsOthers.alloc W _).from _) (Fr.alloc _ _ _) ⟨⟨A1, n1, c1, hv.alloc _, hT.below (below_alloc _ _)⟩, hr.alloc _, below_step hB (below_alloc _ _), by simp; omega⟩ ⟨W.heap.size, ⟨Blk.new _ _ _, by have := hv.lt; omega, by have := hr.lt; omega⟩, rfl⟩
  case body =>
    rintro l pre x a' W hl hlr ⟨⟨A1, n1, c1, hv, hT⟩, hr, hB, hn1⟩ ⟨Bt, ⟨hx, hx1, hx2⟩, rfl⟩ hlt
    clear hI0 hbs hlt hl hlr
    obtain ⟨acc, hacc⟩ : ∃ acc, (pre.map (fun x => x.t)).foldl (fun t x => tC x t) tN = acc := ⟨_, rfl⟩
    rw [hacc] at hv hT
    have HNX := Lib.hid (fun W' (h : LI X w w1.heap.size w.heap.size W0.heap.size (tC x.t acc) W') => show LI X w w1.heap.size w.heap.size W0.heap.size (((pre ++ [x]).map (fun x => x.t)).foldl (fun t x => tC x t) tN) W' by rw [List.map_append, List.foldl_append, hacc]; exact h)
    have HB := Lib.hid hB
    have HV := Lib.hid hv
    have HR := Lib.hid hr
    have HN1 := Lib.hid hn1
    have HC := Lib.hid (pcons_v (X := fun k => X k ∨ k = w1.heap.size ∨ k = w.heap.size) (W := W)
      (by rintro k (hk | rfl | rfl); have := HX.out k hk; have := hB.size; omega; exact hv.lt; exact hr.lt)
      ((x.ok.weak (Y := fun k => X k ∨ k = w1.heap.size ∨ k = w.heap.size) (by rintro k hk (h9 | rfl | rfl); exact h9; omega; omega)).below hB) hT)
    have z0 := hv.cell 0
    have z1 := hv.cell 1
    have z2 := hv.cell 2
    have z3 := hv.cell 3
    have x0 := hx.cell 0
    have x1 := hx.cell 1
    have x2 := hx.cell 2
    have x3 := hx.cell 3
    clear hacc hv hr hB hT hn1 hx
    gi_wp2_with (refine ⟨trivial, ?_⟩; gi_at_call 69; refine (CallsIn.inRound l (callsIn_wide.2 HC.out)).mono ?_; rintro e w5 ⟨v, rfl, hT5, hb5⟩; obtain ⟨A5, n5, c5, rfl, hn5⟩ := hT5.form; have HT5 := Lib.hid hT5; have HB5 := Lib.hid hb5; have hv5 := HV.out.keep hb5; have HV5 := Lib.hid hv5; have y0 := hv5.cell 0; have y1 := hv5.cell 1; have y2 := hv5.cell 2; have y3 := hv5.cell 3; have f0 := hv5.frozen 0; have f1 := hv5.frozen 1; have f2 := hv5.frozen 2; have f3 := hv5.frozen 3; clear hT5 hb5 hn5 hv5)
    have hset := HV5.out.set4 (.int .i64 (tC x.t acc).kind) (.int .i64 (tC x.t acc).int) (.string ⟨(tC x.t acc).name.toArray⟩) (.slice A5 n5 c5)
    have hf4 := fr_set4 w5 w1.heap.size (.int .i64 (tC x.t acc).kind) (.int .i64 (tC x.t acc).int) (.string ⟨(tC x.t acc).name.toArray⟩) (.slice A5 n5 c5)
    have hfr := (Fr.of_below HB5.out (fun k => k = w1.heap.size)).same hf4
    have hbf := HB.out.trans (hfr.below HB.out.size (fun k hk => by omega))
    refine ⟨(keeps_of hfr (fun k o hk ho => ?_)).from _, hfr.weak (fun k _ hk => .inl hk), HNX.out _ ⟨⟨A5, n5, c5, hset, HT5.out.step hf4 (fun k _ hk => .inr (.inl hk))⟩, ?_, hbf, Nat.le_trans HN1.out hfr.size⟩⟩
    · subst hk
      have h9 := HV.out
      unfold Blk at h9
      rw [h9] at ho
      injection ho with ho
      rw [← ho]
      rfl
    · exact ((((HR.out.keep HB5.out).far (by simp; omega) _).far (by simp; omega) _).far (by simp; omega) _).far (by simp; omega) _
  case done =>
    rintro D ys W hD rfl ⟨⟨A1, n1, c1, hv, hT⟩, hr, hB, hn1⟩ hK
    have hacc : ((upto (ptAt hL) len).map (fun x => x.t)).foldl (fun t x => tC x t) tN = lstT L := by
      rw [ptAt_terms hL len (by rw [HLN.out]; exact Nat.le_refl _), show L.length - len = 0 by rw [HLN.out]; omega, List.drop_zero, foldl_rev]
      rfl
    rw [hacc] at hv hT
    clear hacc
    have z0 := hv.cell 0
    have z1 := hv.cell 1
    have z2 := hv.cell 2
    have z3 := hv.cell 3
    have y0 := hr.cell 0
    have y1 := hr.cell 1
    have y2 := hr.cell 2
    have y3 := hr.cell 3
    have f0 := hr.frozen 0
    have f1 := hr.frozen 1
    have f2 := hr.frozen 2
    have f3 := hr.frozen 3
    gi_wp2
    have hset := hr.set4 (.int .i64 (lstT L).kind) (.int .i64 (lstT L).int) (.string ⟨(lstT L).name.toArray⟩) (.slice A1 n1 c1)
    have hf4 := fr_set4 W w.heap.size (.int .i64 (lstT L).kind) (.int .i64 (lstT L).int) (.string ⟨(lstT L).name.toArray⟩) (.slice A1 n1 c1)
    have k0 := (KeepsOthers.setCell W ⟨w.heap.size, 0, none⟩ (.int .i64 (lstT L).kind)).same D _ hK rfl
    have k1 := (KeepsOthers.setCell _ ⟨w.heap.size, 1, none⟩ (.int .i64 (lstT L).int)).same D _ k0 rfl
    have k2 := (KeepsOthers.setCell _ ⟨w.heap.size, 2, none⟩ (.string ⟨(lstT L).name.toArray⟩)).same D _ k1 rfl
    have k3 := (KeepsOthers.setCell _ ⟨w.heap.size, 3, none⟩ (.slice A1 n1 c1)).same D _ k2 rfl
    have hbf := hB.trans (hf4.below hB.size (fun k hk => by omega))
    refine ⟨by simp, .inl ⟨_, _, rfl, run_takeDeferred k3, ?_⟩⟩
    have hp := fun p => cell_putObj' k3 (o' := .deferred none) rfl rfl p
    have c0 := (hp ⟨w.heap.size, 0, none⟩).trans (hset.cell 0)
    have c1' := (hp ⟨w.heap.size, 1, none⟩).trans (hset.cell 1)
    have c2 := (hp ⟨w.heap.size, 2, none⟩).trans (hset.cell 2)
    have c3 := (hp ⟨w.heap.size, 3, none⟩).trans (hset.cell 3)
    have hT4 := ((hT.step hf4 (fun k _ hk => .inr (.inr hk))).weak (Y := X) (fun k _ h => .inl h))
    refine ⟨.agg #[.int .i64 (lstT L).kind, .int .i64 (lstT L).int, .string ⟨(lstT L).name.toArray⟩, .slice A1 n1 c1], ?_, ⟨_, rfl, TVal.kept hT4 (kept_row (grownBy_putObj' _ D _) (fun k hk => by cases hk; exact ⟨_, k3, rfl⟩)), hbf.trans (belowK_b (w := w) (Nat.le_refl _) _ D _ _ (by omega) k3 rfl rfl)⟩⟩
    simp [results, Tryz.results45, go_sem, c0, c1', c2, c3]
  case stop =>
    rintro D c pre W _ _ h _
    exact h.elim
end
end Go.Proofs.YtbpnlpjbjmojfaaGreat
