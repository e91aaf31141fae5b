/- Arith (layer 14): elements ahead of an end; slices.Reverse. Written by argenn.py. -/
import Derived.Test.YtbpnlpjbjmojfaaGreatArK
namespace Go.Proofs.YtbpnlpjbjmojfaaGreat
open Go.RowKit Go.Shelf
attribute [local go_sem] Oper.semAt_some
set_option linter.unusedVariables false

section
variable {w W V V' : World} {u u1 u2 : Value} {t t1 t2 : TV}
set_option maxRecDepth 100000 in
set_option maxHeartbeats 4000000 in
theorem behind_v {X : Nat → Prop} (hX : ∀ k, X k → k < w.heap.size) {A : Option Addr} {len cap : Nat} {L : List TV} (hL : LEx X w (.slice A len cap) L) (hlen : L.length ≤ 1000000) (h2 : TEx X w u2 t2) : Calls Tryz.prog 73 #[.slice A len cap, u2] w (R1 X w (lstE L t2)) := by
  have hl : L.length = len := by obtain ⟨A', n', c', e, h, _⟩ := hL.form; obtain ⟨rfl, rfl, rfl⟩ := Value.slice.inj e; exact h
  obtain ⟨hlc, hcm⟩ : len ≤ cap ∧ cap ≤ 9223372036854775807 := by obtain ⟨A', n', c', e, h, h2, h3⟩ := hL.form; obtain ⟨rfl, rfl, rfl⟩ := Value.slice.inj e; exact ⟨h2, h3⟩
  rw [hl] at hlen
  obtain ⟨A2, n2, c2, rfl, hn2⟩ := h2.form
  have HLN := Lib.hid hl
  have HX := Lib.hid hX
  have HBK := Lib.hid (fun W => back_any A len cap W)
  clear hl hX hn2
  have hmx : Tryz.prog.follows .mixedOrders = true := by kernel_rfl
  refine (callsIn_wide (n := 6)).1 ?_
  refine callsIn_of_wp_marks Tryz.func73 rfl trivial ?_ rfl
  simp only [Tryz.ntmps73, List.size_toArray, List.length_cons, List.length_nil, Nat.reduceAdd, Nat.reduceSub, Array.replicate_succ, Array.replicate_zero, List.push_toArray, List.append_toArray, List.nil_append, List.cons_append]
  gi_wp2_with (refine ⟨trivial, ?_⟩; gi_at_call 90; refine (callsIn_wide.2 (HBK.out _)).mono ?_; rintro e w' ⟨rfl, rfl⟩)
  obtain ⟨W0, hW0⟩ : ∃ W0, (((w.alloc (.cells #[.int .i64 t2.kind, .int .i64 t2.int, .string ⟨t2.name.toArray⟩, .slice A2 n2 c2] 26)).alloc (.cells #[.int .i64 0, .int .i64 0, .string ⟨#[]⟩, .slice none 0 0] 26)).alloc (.cells #[.slice A len cap] 22)) = W0 := ⟨_, rfl⟩
  have hsz : W0.heap.size = w.heap.size + 3 := by rw [← hW0]; simp
  have hbo : Blk W0 w.heap.size 26 #[.int .i64 t2.kind, .int .i64 t2.int, .string ⟨t2.name.toArray⟩, .slice A2 n2 c2] := by rw [← hW0]; exact ((Blk.new _ _ _).alloc _).alloc _
  have hbs : Blk W0 (w.heap.size + 2) 22 #[.slice A len cap] := by rw [← hW0]; exact Blk.newAt (by simp)
  have hbr : Blk W0 (w.heap.size + 1) 26 #[.int .i64 0, .int .i64 0, .string ⟨#[]⟩, .slice none 0 0] := by rw [← hW0]; exact (Blk.newAt (by simp)).alloc _
  have hB0 : Below w.heap.size w W0 := by rw [← hW0]; exact below_step (below_step (below_alloc _ _) (below_alloc _ _)) (below_alloc _ _)
  have hI0 : LI X w w.heap.size (w.heap.size + 1) W0.heap.size ((([] : List (Pt X w)).map (fun x => x.t)).foldl (fun t x => tC x t) t2) W0 := ⟨⟨A2, n2, c2, hbo, (h2.weak (Y := fun k => X k ∨ k = w.heap.size ∨ k = w.heap.size + 1) (by rintro k hk (h9 | rfl | rfl); exact h9; omega; omega)).below hB0⟩, hbr, hB0, Nat.le_refl _⟩
  try rw [hW0]
  clear hW0 hbo hbr h2
  refine wpIn_rangeFunc_ownH rfl (by omega) (gf := 102) (lb := #[.pointer (some ⟨w.heap.size + 2, 0, none⟩)]) rfl trivial (enters_of Tryz.func102 (by kernel_rfl) rfl)
    (back_stops _ (by omega) (w.heap.size + 2) W0.heap.size w.heap.size w A L len cap hL HLN.out hlc hcm hlen (by omega) (by omega) (by omega) (by omega) W0 hB0 (Nat.le_refl _) (hbs.cell 0)) kpC_t (kpC_b (Nat.le_refl _)) (Below.refl _ _) (fun _ => rfl)
    (fun (pre : List (Pt X w)) W => LI X w w.heap.size (w.heap.size + 1) W0.heap.size ((pre.map (fun x => x.t)).foldl (fun t x => tC x t) t2) W)
    (fun _ _ _ => False)
    (li_own X w w.heap.size (w.heap.size + 1) W0.heap.size W0.heap.size (by omega) (fun pre : List (Pt X w) => (pre.map (fun x => x.t)).foldl (fun t x => tC x t) t2))
    (fun _ _ _ _ _ hs _ _ => hs)
    hI0
    (fun x a' W => ∃ Bt, (Blk W Bt 26 #[.int .i64 x.t.kind, .int .i64 x.t.int, .string ⟨x.t.name.toArray⟩, .slice x.A x.n x.c] ∧ Bt ≠ w.heap.size ∧ Bt ≠ w.heap.size + 1) ∧ a' = { tmps := #[.slice A len cap, .agg #[.int .i64 t2.kind, .int .i64 t2.int, .string ⟨t2.name.toArray⟩, .slice A2 n2 c2], undef, .pointer (some ⟨w.heap.size, 0, none⟩), .pointer (some ⟨w.heap.size + 1, 0, none⟩), undef, .pointer (some ⟨Bt, 0, none⟩), .slice A len cap,
      .func (.func 102) #[] #[.pointer (some ⟨w.heap.size + 2, 0, none⟩)], .int .i64 x.idx, .agg #[.int .i64 x.t.kind, .int .i64 x.t.int, .string ⟨x.t.name.toArray⟩, .slice x.A x.n x.c], undef, undef, undef, undef], defers := [] }) ?ax ?assign ?body ?done ?stop
  case ax =>
    rintro x a' _ W W' row ⟨Bt, ⟨h1, h2⟩, h5⟩ hg hrow
    exact ⟨Bt, ⟨h1.grown hg (blk_row h1 (fun k hk => (hrow k hk).2)), h2⟩, h5⟩
  case assign =>
    rintro l pre x W K hI hK
    unfold ptEnc
    gi_wp2
    have hI' := hI
    obtain ⟨⟨A1, n1, c1, hv, hT⟩, hr, hB, hn1⟩ := hI
    exact hK _ _ ((KeepsOthers.alloc W _).from _) (Fr.alloc _ _ _) ⟨⟨A1, n1, c1, hv.alloc _, hT.below (below_alloc _ _)⟩, hr.alloc _, below_step hB (below_alloc _ _), by simp; omega⟩ ⟨W.heap.size, ⟨Blk.new _ _ _, by have := hv.lt; omega, by have := hr.lt; omega⟩, rfl⟩
  case body =>
    rintro l pre x a' W hl hlr ⟨⟨A1, n1, c1, hv, hT⟩, hr, hB, hn1⟩ ⟨Bt, ⟨hx, hx1, hx2⟩, rfl⟩ hlt
    clear hI0 hbs hlt hl hlr
    obtain ⟨acc, hacc⟩ : ∃ acc, (pre.map (fun x => x.t)).foldl (fun t x => tC x t) t2 = acc := ⟨_, rfl⟩
    rw [hacc] at hv hT
    have HNX := Lib.hid (fun W' (h : LI X w w.heap.size (w.heap.size + 1) W0.heap.size (tC x.t acc) W') => show LI X w w.heap.size (w.heap.size + 1) W0.heap.size (((pre ++ [x]).map (fun x => x.t)).foldl (fun t x => tC x t) t2) W' by rw [List.map_append, List.foldl_append, hacc]; exact h)
    have HB := Lib.hid hB
    have HV := Lib.hid hv
    have HR := Lib.hid hr
    have HN1 := Lib.hid hn1
    have HSZ := Lib.hid hsz
    have HC := Lib.hid (pcons_v (X := fun k => X k ∨ k = w.heap.size ∨ k = w.heap.size + 1) (W := W)
      (by rintro k (hk | rfl | rfl); have := HX.out k hk; have := hB.size; omega; exact hv.lt; exact hr.lt)
      ((x.ok.weak (Y := fun k => X k ∨ k = w.heap.size ∨ k = w.heap.size + 1) (by rintro k hk (h9 | rfl | rfl); exact h9; omega; omega)).below hB) hT)
    have z0 := hv.cell 0
    have z1 := hv.cell 1
    have z2 := hv.cell 2
    have z3 := hv.cell 3
    have x0 := hx.cell 0
    have x1 := hx.cell 1
    have x2 := hx.cell 2
    have x3 := hx.cell 3
    clear hacc hv hr hB hT hn1 hx hsz
    gi_wp2_with (refine ⟨trivial, ?_⟩; gi_at_call 69; refine (CallsIn.inRound l (callsIn_wide.2 HC.out)).mono ?_; rintro e w5 ⟨v, rfl, hT5, hb5⟩; obtain ⟨A5, n5, c5, rfl, hn5⟩ := hT5.form; have HT5 := Lib.hid hT5; have HB5 := Lib.hid hb5; have hv5 := HV.out.keep hb5; have HV5 := Lib.hid hv5; have y0 := hv5.cell 0; have y1 := hv5.cell 1; have y2 := hv5.cell 2; have y3 := hv5.cell 3; have f0 := hv5.frozen 0; have f1 := hv5.frozen 1; have f2 := hv5.frozen 2; have f3 := hv5.frozen 3; clear hT5 hb5 hn5 hv5)
    have hset := HV5.out.set4 (.int .i64 (tC x.t acc).kind) (.int .i64 (tC x.t acc).int) (.string ⟨(tC x.t acc).name.toArray⟩) (.slice A5 n5 c5)
    have hf4 := fr_set4 w5 w.heap.size (.int .i64 (tC x.t acc).kind) (.int .i64 (tC x.t acc).int) (.string ⟨(tC x.t acc).name.toArray⟩) (.slice A5 n5 c5)
    have hfr := (Fr.of_below HB5.out (fun k => k = w.heap.size)).same hf4
    have hbf := HB.out.trans (hfr.below HB.out.size (fun k hk => by omega))
    refine ⟨(keeps_of hfr (fun k o hk ho => ?_)).from _, hfr.weak (fun k _ hk => .inl hk), HNX.out _ ⟨⟨A5, n5, c5, hset, HT5.out.step hf4 (fun k _ hk => .inr (.inl hk))⟩, ?_, hbf, Nat.le_trans HN1.out hfr.size⟩⟩
    · subst hk
      have h9 := HV.out
      unfold Blk at h9
      rw [h9] at ho
      injection ho with ho
      rw [← ho]
      rfl
    · exact ((((HR.out.keep HB5.out).far (by simp) _).far (by simp) _).far (by simp) _).far (by simp) _
  case done =>
    rintro D ys W hD rfl ⟨⟨A1, n1, c1, hv, hT⟩, hr, hB, hn1⟩ hK
    have hacc : ((upto (ptAt hL) len).map (fun x => x.t)).foldl (fun t x => tC x t) t2 = lstE L t2 := by
      rw [ptAt_terms hL len (by rw [HLN.out]; exact Nat.le_refl _), show L.length - len = 0 by rw [HLN.out]; omega, List.drop_zero, foldl_rev]
    rw [hacc] at hv hT
    clear hacc
    have z0 := hv.cell 0
    have z1 := hv.cell 1
    have z2 := hv.cell 2
    have z3 := hv.cell 3
    have y0 := hr.cell 0
    have y1 := hr.cell 1
    have y2 := hr.cell 2
    have y3 := hr.cell 3
    have f0 := hr.frozen 0
    have f1 := hr.frozen 1
    have f2 := hr.frozen 2
    have f3 := hr.frozen 3
    gi_wp2
    have hset := hr.set4 (.int .i64 (lstE L t2).kind) (.int .i64 (lstE L t2).int) (.string ⟨(lstE L t2).name.toArray⟩) (.slice A1 n1 c1)
    have hf4 := fr_set4 W (w.heap.size + 1) (.int .i64 (lstE L t2).kind) (.int .i64 (lstE L t2).int) (.string ⟨(lstE L t2).name.toArray⟩) (.slice A1 n1 c1)
    have k0 := (KeepsOthers.setCell W ⟨w.heap.size + 1, 0, none⟩ (.int .i64 (lstE L t2).kind)).same D _ hK rfl
    have k1 := (KeepsOthers.setCell _ ⟨w.heap.size + 1, 1, none⟩ (.int .i64 (lstE L t2).int)).same D _ k0 rfl
    have k2 := (KeepsOthers.setCell _ ⟨w.heap.size + 1, 2, none⟩ (.string ⟨(lstE L t2).name.toArray⟩)).same D _ k1 rfl
    have k3 := (KeepsOthers.setCell _ ⟨w.heap.size + 1, 3, none⟩ (.slice A1 n1 c1)).same D _ k2 rfl
    have hbf := hB.trans (hf4.below hB.size (fun k hk => by omega))
    refine ⟨by simp, .inl ⟨_, _, rfl, run_takeDeferred k3, ?_⟩⟩
    have hp := fun p => cell_putObj' k3 (o' := .deferred none) rfl rfl p
    have c0 := (hp ⟨w.heap.size + 1, 0, none⟩).trans (hset.cell 0)
    have c1' := (hp ⟨w.heap.size + 1, 1, none⟩).trans (hset.cell 1)
    have c2 := (hp ⟨w.heap.size + 1, 2, none⟩).trans (hset.cell 2)
    have c3 := (hp ⟨w.heap.size + 1, 3, none⟩).trans (hset.cell 3)
    have hT4 := ((hT.step hf4 (fun k _ hk => .inr (.inr hk))).weak (Y := X) (fun k _ h => .inl h))
    refine ⟨.agg #[.int .i64 (lstE L t2).kind, .int .i64 (lstE L t2).int, .string ⟨(lstE L t2).name.toArray⟩, .slice A1 n1 c1], ?_, ⟨_, rfl, TVal.kept hT4 (kept_row (grownBy_putObj' _ D _) (fun k hk => by cases hk; exact ⟨_, k3, rfl⟩)), hbf.trans (belowK_b (w := w) (Nat.le_refl _) _ D _ _ (by omega) k3 rfl rfl)⟩⟩
    simp [results, Tryz.results73, go_sem, c0, c1', c2, c3]
  case stop =>
    rintro D c pre W _ _ h _
    exact h.elim

/-! ### slices.Reverse -/
/-- Four cells of a term. -/
structure TQ where
  k : Int
  n : Int
  s : ByteArray
  A : Option Addr
  m : Nat
  c : Nat
def TQ.val (q : TQ) : Value := .agg #[.int .i64 q.k, .int .i64 q.n, .string q.s, .slice q.A q.m q.c]
def IsQ (cs : Array Value) (j : Nat) (q : TQ) : Prop := cs[j * 4]? = some (.int .i64 q.k) ∧ cs[j * 4 + 1]? = some (.int .i64 q.n) ∧ cs[j * 4 + 2]? = some (.string q.s) ∧ cs[j * 4 + 3]? = some (.slice q.A q.m q.c)
def setQ (cs : Array Value) (j : Nat) (q : TQ) : Array Value := (((cs.setIfInBounds (j * 4) (.int .i64 q.k)).setIfInBounds (j * 4 + 1) (.int .i64 q.n)).setIfInBounds (j * 4 + 2) (.string q.s)).setIfInBounds (j * 4 + 3) (.slice q.A q.m q.c)
theorem setQ_size (cs : Array Value) (j : Nat) (q : TQ) : (setQ cs j q).size = cs.size := by simp [setQ]
theorem isQ_set (cs : Array Value) (i j : Nat) (q r : TQ) (hs : i * 4 + 4 ≤ cs.size) (h : j = i ∧ r = q ∨ j ≠ i ∧ IsQ cs j r) : IsQ (setQ cs i q) j r := by
  have e : ∀ a : Nat, (setQ cs i q)[a]? = if a = i * 4 then some (.int .i64 q.k) else if a = i * 4 + 1 then some (.int .i64 q.n) else if a = i * 4 + 2 then some (.string q.s) else if a = i * 4 + 3 then some (.slice q.A q.m q.c) else cs[a]? := by
    intro a
    unfold setQ
    simp only [Array.getElem?_setIfInBounds, Array.size_setIfInBounds]
    by_cases h0 : i * 4 = a
    · subst h0
      rw [if_neg (by omega), if_neg (by omega), if_neg (by omega), if_pos rfl, if_pos (by omega), if_pos rfl]
    · by_cases h1 : i * 4 + 1 = a
      · subst h1
        rw [if_neg (by omega), if_neg (by omega), if_pos rfl, if_pos (by omega), if_neg (by omega), if_pos rfl]
      · by_cases h2 : i * 4 + 2 = a
        · subst h2
          rw [if_neg (by omega), if_pos rfl, if_pos (by omega), if_neg (by omega), if_neg (by omega), if_pos rfl]
        · by_cases h3 : i * 4 + 3 = a
          · subst h3
            rw [if_pos rfl, if_pos (by omega), if_neg (by omega), if_neg (by omega), if_neg (by omega), if_pos rfl]
          · rw [if_neg h3, if_neg h2, if_neg h1, if_neg h0, if_neg (by omega), if_neg (by omega), if_neg (by omega), if_neg (by omega)]
  rcases h with ⟨rfl, rfl⟩ | ⟨hne, h0, h1, h2, h3⟩
  · refine ⟨?_, ?_, ?_, ?_⟩ <;> rw [e]
    · rw [if_pos rfl]
    · rw [if_neg (by omega), if_pos rfl]
    · rw [if_neg (by omega), if_neg (by omega), if_pos rfl]
    · rw [if_neg (by omega), if_neg (by omega), if_neg (by omega), if_pos rfl]
  · refine ⟨?_, ?_, ?_, ?_⟩ <;> rw [e, if_neg (by omega), if_neg (by omega), if_neg (by omega), if_neg (by omega)] <;> assumption
def setW (V : World) (g j : Nat) (q : TQ) : World := (((V.setCell ⟨g, j * 4, none⟩ (.int .i64 q.k)).setCell ⟨g, j * 4 + 1, none⟩ (.int .i64 q.n)).setCell ⟨g, j * 4 + 2, none⟩ (.string q.s)).setCell ⟨g, j * 4 + 3, none⟩ (.slice q.A q.m q.c)
theorem setW_blk {g ty : Nat} {cs : Array Value} (h : Blk V g ty cs) (j : Nat) (q : TQ) : Blk (setW V g j q) g ty (setQ cs j q) := (((h.set_ _ _).set_ _ _).set_ _ _).set_ _ _
theorem setW_fr (V : World) (g j : Nat) (q : TQ) : Fr (fun k => k = g) V (setW V g j q) := by
  have h : ∀ (W : World) (o : Nat) (u : Value), Fr (fun k => k = g) W (W.setCell ⟨g, o, none⟩ u) := fun W o u => Fr.setCell (fun k => k = g) W (p := ⟨g, o, none⟩) (fun _ => rfl) u
  exact (((h _ _ _).same (h _ _ _)).same (h _ _ _)).same (h _ _ _)
/-- What the loop of Reverse keeps. -/
structure RV (W V : World) (g n : Nat) (sz : Nat) (q : Nat → TQ) (i : Nat) (cs : Array Value) : Prop where
  blk : Blk V g 26 cs
  sz : cs.size = sz
  fr : Fr (fun k => k = g) W V
  at_ : ∀ j, j < n → IsQ cs j (if j < i ∨ n - i ≤ j then q (n - 1 - j) else q j)
theorem RV.step {g n sz : Nat} {q : Nat → TQ} {i : Nat} {cs : Array Value} (h : RV W V g n sz q i cs) (hi : i < n - 1 - i) (hs : n * 4 ≤ sz) : RV W (setW (setW V g i (q (n - 1 - i))) g (n - 1 - i) (q i)).drew g n sz q (i + 1) (setQ (setQ cs i (q (n - 1 - i))) (n - 1 - i) (q i)) := by
  refine ⟨(setW_blk (setW_blk h.blk _ _) _ _).keep (Below.refl _ _).drew, by rw [setQ_size, setQ_size, h.sz], ((h.fr.same (setW_fr _ _ _ _)).same (setW_fr _ _ _ _)).drew, fun j hj => ?_⟩
  refine isQ_set _ _ _ _ _ (by rw [setQ_size, h.sz]; omega) ?_
  by_cases h1 : j = n - 1 - i
  · exact .inl ⟨h1, by rw [if_pos (by omega)]; congr 1; omega⟩
  · refine .inr ⟨h1, isQ_set _ _ _ _ _ (by rw [h.sz]; omega) ?_⟩
    by_cases h2 : j = i
    · exact .inl ⟨h2, by rw [if_pos (by omega), h2]⟩
    · refine .inr ⟨h2, ?_⟩
      have := h.at_ j hj
      by_cases h3 : j < i ∨ n - i ≤ j
      · rw [if_pos h3] at this
        rw [if_pos (by omega)]
        exact this
      · rw [if_neg h3] at this
        rw [if_neg (by omega)]
        exact this
set_option maxRecDepth 100000 in
set_option maxHeartbeats 2000000 in
theorem reverse_q {g n cap : Nat} {cs : Array Value} {q : Nat → TQ} (hB : Blk W g 26 cs) (hsz : n * 4 ≤ cs.size) (hq : ∀ j, j < n → IsQ cs j (q j)) (hn : n ≤ 1000000) (hnc : n ≤ cap) (hcm : cap ≤ 9223372036854775807) :
    Calls Tryz.prog 50 #[.slice (some ⟨g, 0, none⟩) n cap] W fun e w' => e = .returned (.tuple #[]) ∧ ∃ cs', Blk w' g 26 cs' ∧ cs'.size = cs.size ∧ (∀ j, j < n → IsQ cs' j (q (n - 1 - j))) ∧ Fr (fun k => k = g) W w' := by
  have H0 : Hid (RV W W g n cs.size q 0 cs) := ⟨hB, rfl, Fr.refl _ _, fun j hj => by rw [if_neg (by omega)]; exact hq j hj⟩
  have hw : wrap64 ((n : Int) - 1) = (n : Int) - 1 := by unfold wrap64; omega
  have HW := Lib.hid hw
  have HS := Lib.hid hsz
  have HN := Lib.hid hn
  clear hB hq hsz hw hn
  go_enter Tryz.func50, Tryz.ntmps50
  have hw := HW.out
  go_upto_region 1 with (fail)
  clear hw
  go_loopw [2, 3] (fun v z wr => ∃ (i : Nat) (c2 : Array Value), Hid (RV W wr g n cs.size q i c2) ∧ v = .int .i64 (i : Nat) ∧ z = .int .i64 ((n : Int) - 1 - i) ∧ Hid (i ≤ n)) (fun v z wr => match v with | .int _ i => (n - i.toNat) | _ => 0)
  case atStart => exact ⟨0, cs, H0, by simp, by simp, Nat.zero_le _⟩
  case round =>
    obtain ⟨i, c2, HR, rfl, rfl, HI⟩ := hrel
    by_cases h1 : i < n - 1 - i
    · obtain ⟨j, hj⟩ : ∃ j, j = n - 1 - i := ⟨_, rfl⟩
      have hd : decide ((i : Nat) < j) = true := by simp; omega
      have ej : (n : Int) - 1 - (i : Int) = (j : Int) := by omega
      have qi := HR.out.at_ i (by omega)
      have qj := HR.out.at_ j (by omega)
      rw [if_neg (by omega)] at qi qj
      have HST := Lib.hid (HR.out.step h1 HS.out)
      rw [← hj] at HST
      have HE := Lib.hid ej
      have HJ := Lib.hid hj
      have H1 := Lib.hid h1
      obtain ⟨⟨ik, inn, is, iA, im, ic⟩, hqi⟩ : ∃ x, x = q i := ⟨_, rfl⟩
      obtain ⟨⟨jk, jnn, js, jA, jm, jc⟩, hqj⟩ : ∃ x, x = q j := ⟨_, rfl⟩
      rw [← hqi] at qi
      rw [← hqj] at qj
      rw [← hqi, ← hqj] at HST
      have HB := Lib.hid HR.out.blk
      have i0 := (HB.out.cell (i * 4)).trans qi.1
      have i1 := (HB.out.cell (i * 4 + 1)).trans qi.2.1
      have i2 := (HB.out.cell (i * 4 + 2)).trans qi.2.2.1
      have i3 := (HB.out.cell (i * 4 + 3)).trans qi.2.2.2
      have j0 := (HB.out.cell (j * 4)).trans qj.1
      have j1 := (HB.out.cell (j * 4 + 1)).trans qj.2.1
      have j2 := (HB.out.cell (j * 4 + 2)).trans qj.2.2.1
      have j3 := (HB.out.cell (j * 4 + 3)).trans qj.2.2.2
      have if0 := HB.out.frozen (i * 4)
      have if1 := HB.out.frozen (i * 4 + 1)
      have if2 := HB.out.frozen (i * 4 + 2)
      have if3 := HB.out.frozen (i * 4 + 3)
      have jf0 := HB.out.frozen (j * 4)
      have jf1 := HB.out.frozen (j * 4 + 1)
      have jf2 := HB.out.frozen (j * 4 + 2)
      have jf3 := HB.out.frozen (j * 4 + 3)
      have hin : i < n := by omega
      have hjn : j < n := by omega
      have hgb : g < wr.heap.size := HB.out.lt
      have hij : ¬ i = j := by omega
      have hji : ¬ j = i := by omega
      simp only at i0 i1 i2 i3 j0 j1 j2 j3
      unfold setW at HST
      simp only at HST
      clear qi qj hj ej h1 hqi hqj
      have wi : wrap64 ((i : Int) + 1) = (i : Int) + 1 := by have := HN.out; unfold wrap64; omega
      have wj : wrap64 ((j : Int) - 1) = (j : Int) - 1 := by have := HN.out; unfold wrap64; omega
      have WI := Lib.hid wi
      have WJ := Lib.hid wj
      clear wi wj
      rw [HE.out]
      go_upto_region 3 with (fail)
      go_region
      have wi := WI.out
      have wj := WJ.out
      go_wp2
      go_roundw
      case rel =>
        refine ⟨i + 1, _, HST.out, by simp, ?_, ?_⟩
        · rw [← HE.out]; congr 1; push_cast; omega
        · have := HJ.out; have := H1.out; show i + 1 ≤ n; omega
      case measure =>
        have := HJ.out
        simp
        omega
    · have hd : decide ((i : Int) < (n : Int) - 1 - (i : Int)) = false := by simp; omega
      have HH := Lib.hid h1
      clear h1
      go_wp2
      have HE : Hid (∀ j, j < n → IsQ c2 j (q (n - 1 - j))) := fun j hj => by
        have h2 := HR.out.at_ j hj
        have h3 := HH.out
        by_cases h4 : j < i ∨ n - i ≤ j
        · rwa [if_pos h4] at h2
        · rw [if_neg h4] at h2
          rwa [show n - 1 - j = j by omega]
      go_end0
      exact ⟨rfl, c2, HR.out.blk, HR.out.sz, HE.out, HR.out.fr⟩

set_option maxRecDepth 100000 in
set_option maxHeartbeats 2000000 in
theorem reverse_0 (A : Option Addr) (cap : Nat) (W : World) : Calls Tryz.prog 50 #[.slice A 0 cap] W fun e w' => e = .returned (.tuple #[]) ∧ W = w' := by
  have hw : wrap64 ((0 : Int) - 1) = -1 := by unfold wrap64; omega
  go_enter Tryz.func50, Tryz.ntmps50
  go_upto_region 1 with (fail)
  go_loopw [2, 3] (fun v z wr => v = .int .i64 0 ∧ z = .int .i64 (-1) ∧ W = wr) (fun _ _ _ => 0)
  case atStart => exact ⟨rfl, rfl, rfl⟩
  case round =>
    obtain ⟨rfl, rfl, rfl⟩ := hrel
    go_wp2
    go_end0
    exact ⟨rfl, rfl⟩
/-- A world's blocks from B on, hidden. -/
def Xb (B : Nat) (X : Nat → Prop) : Nat → Prop := fun k => X k ∨ B ≤ k
theorem std_weak {X Y : Nat → Prop} {cs : List Value} {l : List TV} (h : Std (ers X V) cs l) (hY : ∀ k, Y k → X k) : Std (ers Y V) cs l := h.kept (kept_step (Fr.refl (fun _ => False) V) (fun _ _ h => h.elim) (fun k _ hk => hY k hk))
/-- The row of the call's own, turned round. -/
theorem reverse_v {X Y : Nat → Prop} {B : Nat} {v : Value} {cs : List Value} {l : List TV} (ho : V.ownsRow B 26 4 v l.length cs) (hY : ∀ k, Y k → X k ∧ k < B ∨ B ≤ k ∧ some k ≠ v.ownBlock) (hs : Std (ers (Xb B X) V) cs l) (hn : l.length ≤ 1000000) :
    Calls Tryz.prog 50 #[v] V fun e w' => e = .returned (.tuple #[]) ∧ LEx Y w' v l.reverse ∧ Fr (fun k => B ≤ k ∧ some k = v.ownBlock) V w' := by
  rcases ho.2 with ⟨rfl, hz⟩ | ⟨g, cap, cur, rfl, hbg, hg, hnc, hcm, hsz, htake⟩
  · refine (reverse_0 none 0 V).mono ?_
    rintro e w' ⟨rfl, rfl⟩
    refine ⟨rfl, ⟨none, 0, 0, rfl, by simpa using hz, ?_⟩, Fr.refl _ _⟩
    rw [List.eq_nil_of_length_eq_zero hz]
    exact rdM_nil _ _ _ (by omega)
  · have hitem : ∀ j, ∃ q : TQ, (∀ h : j < l.length, IsQ cur j q ∧ TVal (ers (Xb B X) V) q.val l[j]) ∧ ∃ s : List UInt8, q.s = ⟨s.toArray⟩ := by
      intro j
      by_cases hj : j < l.length
      · obtain ⟨k, n, s, A, m, c, e0, e1, e2, e3, hT⟩ := hs.2.2 j hj
        have hcell : ∀ (i : Nat) (u : Value), cs[i]? = some u → cur[i]? = some u := by
          intro i u h
          rw [← htake, List.getElem?_take] at h
          split at h
          · rw [← Array.getElem?_toList]; exact h
          · cases h
        exact ⟨⟨k, n, ⟨s.toArray⟩, A, m, c⟩, fun _ => ⟨⟨hcell _ _ e0, hcell _ _ e1, hcell _ _ e2, hcell _ _ e3⟩, hT⟩, s, rfl⟩
      · exact ⟨⟨0, 0, ⟨#[]⟩, none, 0, 0⟩, fun h => absurd h hj, [], rfl⟩
    obtain ⟨q, hq⟩ : ∃ q : Nat → TQ, ∀ j, (∀ h : j < l.length, IsQ cur j (q j) ∧ TVal (ers (Xb B X) V) (q j).val l[j]) ∧ ∃ s : List UInt8, (q j).s = ⟨s.toArray⟩ := ⟨fun j => Classical.choose (hitem j), fun j => Classical.choose_spec (hitem j)⟩
    refine (reverse_q (W := V) (g := g) (n := l.length) (cap := cap) (cs := cur) (q := q) hg (by rw [hsz]; omega) (fun j hj => ((hq j).1 hj).1) hn hnc hcm).mono ?_
    rintro e w' ⟨rfl, cs', hB', hsz', hq', hfr⟩
    have hkp : Kept (ers (Xb B X) V) (ers Y w') := kept_step hfr (fun k _ hk => .inr (by rw [hk]; exact hbg)) (fun k _ hk => (hY k hk).elim (fun h => .inl h.1) (fun h => .inr h.1))
    refine ⟨rfl, ⟨some ⟨g, 0, none⟩, l.length, cap, rfl, by simp, by simpa using hnc, hcm, .inr ⟨g, 0, rfl, row_of_at fun j hj => ?_⟩⟩, hfr.weak (fun k _ hk => ⟨by rw [hk]; exact hbg, by rw [hk]; rfl⟩)⟩
    have hj' : l.length - 1 - j < l.length := by simp at hj; omega
    have hjl : j < l.length := by simpa using hj
    obtain ⟨d0, d1, d2, d3⟩ := hq' j hjl
    obtain ⟨⟨_, hT⟩, s, hs2⟩ := And.intro ((hq (l.length - 1 - j)).1 hj') (hq (l.length - 1 - j)).2
    have hc : ∀ (i : Nat) (u : Value), cs'[i]? = some u → (ers Y w').cell? ⟨g, i, none⟩ = some u := fun i u h => (ers_cell _ _ _).2 ⟨fun h9 => by rcases hY _ h9 with h8 | h8; have := h8.2; simp only at this; omega; exact h8.2 rfl, by rw [hB'.cell]; exact h⟩
    rw [List.getElem_reverse, Nat.zero_add]
    unfold TQ.val at hT
    rw [hs2] at hT d2
    exact tval_at (hT.kept hkp) (hc _ _ d0) (hc _ _ d1) (hc _ _ d2) (hc _ _ d3)

end
end Go.Proofs.YtbpnlpjbjmojfaaGreat
