/- Heap (layer 9): every term's word; Lay. Heap (layer 9): Lay. -/
import Derived.Test.YtefnjplfemgibaaHpD
import Derived.Test.YtefnjplfemgibaaTermK
namespace Go.Proofs.Ytefnjplfemgibaa
section
open Go.RowKit Go.Maps
set_option linter.unusedVariables false

section
variable {w0 W V V' : World} {F F2 : Nat → Prop} {pm b1 b2 : Nat} {st : HSt} {rs : Value × List Nat}
theorem mword_any (N : Nat) : ∀ (t : TV) (A : Option Addr) (c : Nat) (st : HSt) (F : Nat → Prop) (W : World), t.parts ≤ N → t.parts ≤ 10000 → t.isT = true → RdM w0 A c t.items → MK w0 W F pm b1 b2 st rs → HOk st → st.ws.length + 3 * t.parts ≤ 100000 → st.nm.length + t.parts ≤ 100000 → st.cs.length + t.parts ≤ 100000 →
    Calls Try.prog 33 #[.pointer (some ⟨pm, 0, none⟩), .agg #[.int .i64 t.kind, .int .i64 t.int, .string ⟨t.name.toArray⟩, .slice A t.items.length c]] W (MEnd w0 W F pm b1 b2 (wordS st t) rs) := by
  induction N with
  | zero => intro t _ _ _ _ _ h; have := t.parts_pos; omega
  | succ N ih =>
    intro t A c st F W hN h4 hT hR hM hok hz1 hz2 hz3
    rw [TV.isT_eq, Bool.and_eq_true] at hT
    have hp := t.parts_eq
    have hlp := len_parts t.items
    rw [wordS_eq]
    rw [hp] at hz1 hz2 hz3
    refine word_loop t.kind t.int t.name t.items A t.items.length c st F W rfl (by omega) hT.1 hT.2 hR hM hok hz1 hz2 hz3 ?_
    intro i h A' c' st' F' W' hR' hM' hok' g1 g2 g3
    have hpi := parts_item t.items i h
    have hTi : t.items[i].isT = true := by
      cases h9 : t.items[i].isT with
      | true => rfl
      | false => have := isL_no t.items i h h9; rw [this] at hT; cases hT.2
    exact ih t.items[i] A' c' st' F' W' (by omega) (by omega) hTi hR' hM' hok' g1 g2 g3
end
section
variable {w0 W V V' : World} {F F2 : Nat → Prop} {pm b1 b2 : Nat} {vw va vr : Value} {st : HSt} {na : List (List UInt8)} {rs : List Nat}
/-- The field of the roots is another row. -/
theorem MKp.setR (h : MKp w0 W F pm b1 b2 vw va vr st na rs) {v' : Value} {rs' : List Nat} (ho : V.ownsRow w0.heap.size 34 1 v' rs'.length (rs'.map nv)) (hg : W.grownBy V vr.ownBlock) (hat : v'.ownBlock = vr.ownBlock ∨ v'.ownBlock = some W.heap.size) :
    MKp w0 (V.setCell ⟨pm, 2, none⟩ v') (fun k => F k ∨ v'.ownBlock = some k) pm b1 b2 vw va v' st na rs' ∧ Fr F W (V.setCell ⟨pm, 2, none⟩ v') := by
  obtain ⟨p1, p2, aw, aa, ar⟩ := h.apart
  have hpl := h.obj.lt
  have hout : ∀ k, F k → vr.ownBlock ≠ some k → k ≠ pm → (V.setCell ⟨pm, 2, none⟩ v').heap[k]? = W.heap[k]? := fun k hk h1 h2 =>
    (Below.heap_setCell V ⟨pm, 2, none⟩ v' k (fun e => h2 e)).trans (hg.block k (h.fresh k hk).2 (fun e => h1 e.symm))
  have hv' : ∀ k, v'.ownBlock = some k → k ≠ pm ∧ (vr.ownBlock = some k ∨ k = W.heap.size) := fun k hk => by
    rcases hat with h1 | h1
    · rw [h1] at hk
      exact ⟨(ar k hk).1, .inl hk⟩
    · rw [h1] at hk
      obtain rfl := Option.some.inj hk
      exact ⟨by omega, .inr rfl⟩
  have hfr : Fr F W (V.setCell ⟨pm, 2, none⟩ v') := (Fr.of_grown hg fun k hk _ => h.fr k hk).same (Fr.setCell F V (p := ⟨pm, 2, none⟩) (fun _ => h.fpm) v')
  have hob : Blk V pm 70 #[vw, va, vr, .map (some b1), .map (some b2)] := h.obj.grown hg (fun e => (ar pm e.symm).1 rfl)
  have hsz : (V.setCell ⟨pm, 2, none⟩ v').heap.size = V.heap.size := by simp [World.setCell]
  obtain ⟨L1, ⟨e1, c1, m1, r1⟩, g1⟩ := h.cm
  obtain ⟨L2, ⟨e2, c2, m2, r2⟩, g2⟩ := h.am
  refine ⟨?_, hfr⟩
  exact {
    old := h.old.trans (hfr.below h.old.size fun k hk => (h.fresh k hk).1)
    fresh := fun k hk => by
      rcases hk with hk | hk
      · exact ⟨(h.fresh k hk).1, Nat.lt_of_lt_of_le (h.fresh k hk).2 hfr.size⟩
      · obtain ⟨a, b, _⟩ := own_heap ho hk
        exact ⟨a, by rw [hsz]; exact b⟩
    obj := hob.set_ 2 v'
    rw := own_at h.rw fun k hk => hout k (h.fw k hk) (h.nwr k hk) (aw k hk).1
    ra := own_at h.ra fun k hk => hout k (h.fa k hk) (aa k hk).2.2.2 (aa k hk).1
    rr := own_at ho fun k hk => Below.heap_setCell V ⟨pm, 2, none⟩ v' k (fun e => (hv' k hk).1 e)
    cm := ⟨L1, ⟨e1, c1, (hout b1 h.fb1 (fun e => (ar b1 e).2.1 rfl) (Ne.symm p1)).trans m1, r1⟩, g1⟩
    am := ⟨L2, ⟨e2, c2, (hout b2 h.fb2 (fun e => (ar b2 e).2.2 rfl) (Ne.symm p2)).trans m2, r2⟩, g2⟩
    fpm := .inl h.fpm
    fb1 := .inl h.fb1
    fb2 := .inl h.fb2
    fw := fun k hk => .inl (h.fw k hk)
    fa := fun k hk => .inl (h.fa k hk)
    fr := fun k hk => .inr hk
    ne := h.ne
    nwr := fun k hk h9 => by
      rcases (hv' k h9).2 with h1 | rfl
      · exact h.nwr k hk h1
      · exact Nat.lt_irrefl _ (own_heap h.rw hk).2.1 }
end
end
section
open Go.RowKit Go.Maps
set_option linter.unusedVariables false

theorem hcheck_le {l : List TV} : checkP l = 0 → TV.partsL l ≤ 4096 ∧ TV.isL l = true := by
  unfold checkP
  intro h
  by_cases h1 : TV.partsL l ≤ 4096
  · rw [if_pos h1] at h
    by_cases h2 : TV.isL l = true
    · exact ⟨h1, h2⟩
    · rw [if_neg h2] at h; cases h
  · rw [if_neg h1] at h; cases h
theorem Blk.set3 {V : World} {p ty : Nat} {a b c : Value} (h : Blk V p ty #[a, b, c]) (x0 x1 x2 : Value) : Blk (((V.setCell ⟨p, 0, none⟩ x0).setCell ⟨p, 1, none⟩ x1).setCell ⟨p, 2, none⟩ x2) p ty #[x0, x1, x2] := by
  have := ((h.set_ 0 x0).set_ 1 x1).set_ 2 x2
  simpa using this
theorem fr_set3 (V : World) (p : Nat) (x0 x1 x2 : Value) : Fr (fun k => k = p) V (((V.setCell ⟨p, 0, none⟩ x0).setCell ⟨p, 1, none⟩ x1).setCell ⟨p, 2, none⟩ x2) :=
  ((Fr.setCell (fun k => k = p) V (p := ⟨p, 0, none⟩) (fun _ => rfl) x0).same (Fr.setCell (fun k => k = p) _ (p := ⟨p, 1, none⟩) (fun _ => rfl) x1)).same (Fr.setCell (fun k => k = p) _ (p := ⟨p, 2, none⟩) (fun _ => rfl) x2)
/-- The empty heap under way. -/
def st0 : HSt := ⟨[], [], []⟩
theorem st0_ok : HOk st0 := ⟨(fun x hx => by cases hx), (fun c hc => by cases hc)⟩
/-- The plain heap of terms: what is laid, and the roots. -/
def layS (l : List TV) : HSt × List Nat := wordsS st0 l
/-- A heap's three rows, of the call's own. -/
structure HOwn (B : Nat) (W : World) (vw va vr : Value) (ws : List Nat) (nm : List (List UInt8)) (rs : List Nat) : Prop where
  w : W.ownsRow B 34 1 vw ws.length (ws.map nv)
  a : W.ownsRow B 9 1 va nm.length (nm.map hv)
  r : W.ownsRow B 34 1 vr rs.length (rs.map nv)
def LayEnds (W : World) (l : List TV) (e : Ending) (W' : World) : Prop :=
  Below W.heap.size W W' ∧ ((checkP l ≠ 0 ∧ e = .returned (.tuple #[.agg #[.slice none 0 0, .slice none 0 0, .slice none 0 0], .int .i64 (checkP l : Nat)])) ∨
    (checkP l = 0 ∧ ∃ vw va vr, e = .returned (.tuple #[.agg #[vw, va, vr], .int .i64 0]) ∧ HOwn W.heap.size W' vw va vr (layS l).1.ws (layS l).1.nm (layS l).2))
theorem MK_new (w0 W : World) (hW : Below w0.heap.size w0 W) : MK w0 (((W.alloc (.map #[] 0)).alloc (.map #[] 0)).alloc (.cells #[.slice none 0 0, .slice none 0 0, .slice none 0 0, .map (some W.heap.size), .map (some (W.heap.size + 1))] 70)) (fun k => W.heap.size ≤ k ∧ k < W.heap.size + 3) (W.heap.size + 2) W.heap.size (W.heap.size + 1) st0 (.slice none 0 0, []) := by
  have e1 : (W.alloc (.map #[] 0)).heap.size = W.heap.size + 1 := by simp
  have e2 : ((W.alloc (.map #[] 0)).alloc (.map #[] 0)).heap.size = W.heap.size + 2 := by simp
  have hs := hW.size
  refine ⟨.slice none 0 0, .slice none 0 0, ?_⟩
  exact {
    old := hW.trans ((below_step (below_step (below_alloc W (.map #[] 0)) (below_alloc _ (.map #[] 0))) (below_alloc _ _)).mono hs)
    fresh := fun k hk => ⟨by omega, by simp; omega⟩
    obj := by
      have := Blk.new ((W.alloc (.map #[] 0)).alloc (.map #[] 0)) 70 #[.slice none 0 0, .slice none 0 0, .slice none 0 0, .map (some W.heap.size), .map (some (W.heap.size + 1))]
      rw [e2] at this
      exact this
    rw := World.ownsRow_nil _ _ _ _
    ra := World.ownsRow_nil _ _ _ _
    rr := World.ownsRow_nil _ _ _ _
    cm := ⟨[], ((World.ownsMap_made W Try.prog 9 (plainElem (H := Unit) Try.prog 34)).alloc _).alloc _, rfl, fun tag w _ _ => rfl⟩
    am := ⟨[], by
      have := (World.ownsMap_made (W.alloc (.map #[] 0)) Try.prog 9 (plainElem (H := Unit) Try.prog 3)).alloc (.cells #[.slice none 0 0, .slice none 0 0, .slice none 0 0, .map (some W.heap.size), .map (some (W.heap.size + 1))] 70)
      rw [e1] at this
      exact this, rfl, fun s => rfl⟩
    fpm := by omega
    fb1 := by omega
    fb2 := by omega
    fw := fun k hk => by cases hk
    fa := fun k hk => by cases hk
    fr := fun k hk => by cases hk
    ne := by omega
    nwr := fun k hk => by cases hk }
section
variable {W V V' : World}
set_option maxRecDepth 100000 in
set_option maxHeartbeats 4000000 in
theorem hlay_v (l : List TV) (A : Option Addr) (len c : Nat) (W : World) (hlen : l.length = len) (hnm : TV.namedL l) (hR : RdM W A c l) :
    Calls Try.prog 11 #[.slice A len c] W (LayEnds W l) := by
  have HCK : Hid (∀ V, Below W.heap.size W V → Calls Try.prog 32 #[.slice A len c] V fun e w' => e = .returned (.int .i64 (checkP l : Nat)) ∧ Below V.heap.size V w') := fun V hV => check_any l A len c W V hlen hnm hV hR
  have HLEN := Lib.hid hlen
  have HR := Lib.hid hR
  clear hlen hnm hR
  obtain ⟨g0, hg0⟩ : ∃ g, W.heap.size = g := ⟨_, rfl⟩
  have HG0 := Lib.hid hg0
  by_cases hck : checkP l = 0
  rotate_left
  · obtain ⟨ck, hce⟩ : ∃ ck, checkP l = ck := ⟨_, rfl⟩
    rw [hce] at HCK hck
    have HCE := Lib.hid hce
    have hd : ((ck : Int) == 0) = false := by simpa using hck
    have HCN := Lib.hid hck
    clear hce hck
    go_enter Try.func11, Try.ntmps11
    go_upto_region 1 with (fail)
    refine wp_world (fun V => Below W.heap.size W V ∧ Blk V g0 29 #[.slice none 0 0, .slice none 0 0, .slice none 0 0]) ⟨below_alloc _ _, by rw [← HG0.out]; exact Blk.new _ _ _⟩ ?_
    rintro V ⟨hb, hk⟩
    have HB := Lib.hid hb
    have HK := Lib.hid hk
    clear hb hk hg0
    go_upto_region 2 with (go_at_call 32; refine (HCK.out V HB.out).mono ?_; rintro e w1 ⟨rfl, hb1⟩)
    refine wp_world (fun V => Below W.heap.size W V ∧ Blk V g0 29 #[.slice none 0 0, .slice none 0 0, .slice none 0 0]) ⟨below_step HB.out hb1, HK.out.keep hb1⟩ ?_
    clear hb1 HB HK
    rintro V ⟨hb, hk⟩
    have HB := Lib.hid hb
    have HK := Lib.hid hk
    have z0 := hk.cell 0
    have z1 := hk.cell 1
    have z2 := hk.cell 2
    have zf0 := hk.frozen 0
    have zf1 := hk.frozen 1
    have zf2 := hk.frozen 2
    clear hb hk
    go_wp2
    have hB2 := HK.out.set3 (.slice none 0 0) (.slice none 0 0) (.slice none 0 0)
    have y0 := hB2.cell 0
    have y1 := hB2.cell 1
    have y2 := hB2.cell 2
    refine bodyPost_ret (v := .tuple #[.agg #[.slice none 0 0, .slice none 0 0, .slice none 0 0], .int .i64 (ck : Int)]) (by simp [results, Try.results11, go_sem, y0, y1, y2]) rfl ?_
    refine ⟨?_, .inl ⟨by rw [HCE.out]; exact HCN.out, by rw [HCE.out]⟩⟩
    exact HB.out.trans ((fr_set3 V g0 _ _ _).below HB.out.size (fun k hk => by have := HG0.out; omega))
  · obtain ⟨hpl, hL⟩ := hcheck_le hck
    rw [hck] at HCK
    have HCZ := Lib.hid hck
    have HPL := Lib.hid hpl
    have HL := Lib.hid hL
    have hmm := @run_makeMap Try.prog
    have hlenb : len ≤ 4096 := by have := len_parts l; have := HLEN.out; omega
    clear hck hpl hL
    go_enter Try.func11, Try.ntmps11
    go_upto_region 1 with (fail)
    refine wp_world (fun V => Below W.heap.size W V ∧ Blk V g0 29 #[.slice none 0 0, .slice none 0 0, .slice none 0 0]) ⟨below_alloc _ _, by rw [← HG0.out]; exact Blk.new _ _ _⟩ ?_
    rintro V ⟨hb, hk⟩
    have HB := Lib.hid hb
    have HK := Lib.hid hk
    clear hb hk hg0
    go_upto_region 4 with (go_at_call 32; refine (HCK.out V HB.out).mono ?_; rintro e w1 ⟨rfl, hb1⟩)
    refine wp_world (fun V => Below W.heap.size W V ∧ Blk V g0 29 #[.slice none 0 0, .slice none 0 0, .slice none 0 0]) ⟨below_step HB.out hb1, HK.out.keep hb1⟩ ?_
    clear hb1 HB HK
    rintro V ⟨hb, hk⟩
    have HB := Lib.hid hb
    have HK := Lib.hid hk
    have HN := Lib.hid (MK_new W V hb)
    have HGV := Lib.hid hk.lt
    clear hb hk
    go_upto_region 5 with (fail)
    refine wp_world (fun V' => (∃ F, MK W V' F (V.heap.size + 2) V.heap.size (V.heap.size + 1) st0 (.slice none 0 0, []) ∧ ∀ x, F x → g0 < x) ∧ Blk V' g0 29 #[.slice none 0 0, .slice none 0 0, .slice none 0 0]) ⟨⟨_, HN.out, fun (x : Nat) (hx : V.heap.size ≤ x ∧ x < V.heap.size + 3) => Nat.lt_of_lt_of_le HGV.out hx.1⟩, ((HK.out.alloc _).alloc _).alloc _⟩ ?_
    clear HN HB HK HGV hmm
    rintro V1 ⟨⟨F1, hM1, hF1⟩, hK1⟩
    generalize hpm : V.heap.size + 2 = pm at *
    generalize hb2 : V.heap.size + 1 = b2 at *
    generalize hb1 : V.heap.size = b1 at *
    clear hpm hb2 hb1
    have HM1 := Lib.hid hM1
    have HF1 := Lib.hid hF1
    have HK1 := Lib.hid hK1
    clear hM1 hF1 hK1
    go_wp2
    go_loopw [20] (fun i wr => ∃ (j : Nat) (F : Nat → Prop) (vr : Value), j ≤ len ∧ i = .int .i64 j ∧ MK W wr F pm b1 b2 (wordsS st0 (l.take j)).1 (vr, (wordsS st0 (l.take j)).2) ∧ (∀ x, F x → g0 < x) ∧ Blk wr g0 29 #[.slice none 0 0, .slice none 0 0, .slice none 0 0]) (fun i _ => len - (intOf i).toNat)
    case atStart => exact ⟨0, F1, .slice none 0 0, Nat.zero_le _, rfl, (by simpa [wordsS_nil] using HM1.out), HF1.out, HK1.out⟩
    case round =>
      obtain ⟨j, F, vr, hj, rfl, hM, hs, hB⟩ := hrel
      clear HM1 HF1 HK1
      obtain ⟨⟨q1, q2, q3, q4⟩, q5⟩ := wordsS_ok (l.take j) st0 st0_ok (by have := HPL.out; have := partsL_take_le l j; simp [st0]; omega) (by have := HPL.out; have := partsL_take_le l j; simp [st0]; omega)
      by_cases hlt : j < len
      · have hd1 : decide (j < len) = true := by simp; omega
        have hkl : j < l.length := by rw [HLEN.out]; exact hlt
        obtain ⟨b, o, A', c', rfl, e0', e1', e2', e3', hR'⟩ := HR.out.item hkl
        have e0 := (hM.old.cell (World.block_lt_of_cell? W _ e0')).trans e0'
        have e1 := (hM.old.cell (World.block_lt_of_cell? W _ e1')).trans e1'
        have e2 := (hM.old.cell (World.block_lt_of_cell? W _ e2')).trans e2'
        have e3 := (hM.old.cell (World.block_lt_of_cell? W _ e3')).trans e3'
        have htk := wordsS_take st0 l j hkl
        have hpt := partsL_take l j hkl
        have hpl := partsL_take_le l (j + 1)
        have hz := HPL.out
        have hTi : l[j].isT = true := by
          cases h9 : l[j].isT with
          | true => rfl
          | false => have h8 := isL_no l j hkl h9; have h7 := HL.out; rw [h8] at h7; cases h7
        simp only [st0, List.length_nil, Nat.zero_add] at q2 q3 q4
        have HIH := Lib.hid (fun (V5 : World) (hM5 : MK W V5 F pm b1 b2 (wordsS st0 (l.take j)).1 (vr, (wordsS st0 (l.take j)).2)) => mword_any l[j].parts l[j] A' c' (wordsS st0 (l.take j)).1 F V5 (Nat.le_refl _) (by omega) hTi hR' hM5 q1 (by simp only [st0] at *; omega) (by simp only [st0] at *; omega) (by simp only [st0] at *; omega))
        have HTK := Lib.hid htk
        have HRL := Lib.hid (show (wordsS st0 (l.take j)).2.length = j by rw [wordsS_len, List.length_take]; omega)
        clear e0' e1' e2' e3' htk hpt hpl hz hR' q1 q2 q3 q4 q5 hTi
        generalize l[j] = ti at *
        generalize hsj : (wordsS st0 (l.take j)).1 = sj at *
        generalize hwj : (wordsS st0 (l.take j)).2 = wj at *
        obtain ⟨xw, hxw⟩ : ∃ xw, (wordS sj ti).2 = xw := ⟨_, rfl⟩
        have HXW := Lib.hid hxw
        have HMj := Lib.hid hM
        have HS := Lib.hid hs
        have HB := Lib.hid hB
        clear hM hs hB hxw hsj hwj hkl
        have hq1 : (0 : Int) ≤ (j : Int) := by omega
        have hq2 : (j : Int) < (len : Int) := by omega
        obtain ⟨gx, hgx⟩ : ∃ gx, wr.heap.size = gx := ⟨_, rfl⟩
        go_upto_region 8 with (fail)
        refine wp_world (fun V => MK W V F pm b1 b2 sj (vr, wj) ∧ Blk V g0 29 #[.slice none 0 0, .slice none 0 0, .slice none 0 0] ∧ Blk V gx 37 #[.int .i64 ti.kind, .int .i64 ti.int, .string ⟨ti.name.toArray⟩, .slice A' ti.items.length c'] ∧ ∀ x, F x → x < gx) ⟨HMj.out.keep (below_alloc _ _), HB.out.alloc _, by rw [← hgx]; exact Blk.new _ _ _, fun x hx => by rw [← hgx]; exact (HMj.out.fresh x hx).2⟩ ?_
        clear HMj HB e0 e1 e2 e3 hgx
        rintro V5 ⟨hM5, hB5, hx5, hg5⟩
        have HM5 := Lib.hid hM5
        have HB5 := Lib.hid hB5
        have HX5 := Lib.hid hx5
        have HG5 := Lib.hid hg5
        have HSC : Hid (∀ V F', MK W V F' pm b1 b2 sj (vr, wj) → Blk V gx 37 #[.int .i64 ti.kind, .int .i64 ti.int, .string ⟨ti.name.toArray⟩, .slice A' ti.items.length c'] → (V.cell? ⟨pm, 2, none⟩ = some vr ∧ V.cell? ⟨gx, 0, none⟩ = some (.int .i64 ti.kind) ∧ V.cell? ⟨gx, 1, none⟩ = some (.int .i64 ti.int) ∧ V.cell? ⟨gx, 2, none⟩ = some (.string ⟨ti.name.toArray⟩) ∧ V.cell? ⟨gx, 3, none⟩ = some (.slice A' ti.items.length c'))) := fun V F' hM hx => by
          obtain ⟨vw, va, h⟩ := hM
          exact ⟨h.obj.cell 2, hx.cell 0, hx.cell 1, hx.cell 2, hx.cell 3⟩
        have HSC2 : Hid (∀ V F' st', MK W V F' pm b1 b2 st' (vr, wj) → Blk V gx 37 #[.int .i64 ti.kind, .int .i64 ti.int, .string ⟨ti.name.toArray⟩, .slice A' ti.items.length c'] → (V.cell? ⟨pm, 2, none⟩ = some vr ∧ V.cell? ⟨gx, 0, none⟩ = some (.int .i64 ti.kind) ∧ V.cell? ⟨gx, 1, none⟩ = some (.int .i64 ti.int) ∧ V.cell? ⟨gx, 2, none⟩ = some (.string ⟨ti.name.toArray⟩) ∧ V.cell? ⟨gx, 3, none⟩ = some (.slice A' ti.items.length c'))) := fun V F' st' hM hx => by
          obtain ⟨vw, va, h⟩ := hM
          exact ⟨h.obj.cell 2, hx.cell 0, hx.cell 1, hx.cell 2, hx.cell 3⟩
        clear hM5 hB5 hx5 hg5
        refine wp_region_W 14 (fun V => V.cell? ⟨pm, 2, none⟩ = some vr ∧ V.cell? ⟨gx, 0, none⟩ = some (.int .i64 ti.kind) ∧ V.cell? ⟨gx, 1, none⟩ = some (.int .i64 ti.int) ∧ V.cell? ⟨gx, 2, none⟩ = some (.string ⟨ti.name.toArray⟩) ∧ V.cell? ⟨gx, 3, none⟩ = some (.slice A' ti.items.length c')) (by kernel_rfl) ?_ (fun hS0 => ?_)
        · exact HSC.out V5.drew F (HM5.out.keep (Below.refl _ _).drew) HX5.out
        (refine wpAnyW_take (i := 0) (v := ?_) rfl (by kernel_rfl) (by kernel_rfl) (by kernel_rfl) (by kernel_rfl) (fun _ _ _ h => h) (Or.inl ⟨by kernel_rfl, ?_⟩) (by assumption) ?_; rotate_left; focus (intro V9 hS9; go_simp; (try (with_reducible rfl)); done))
        try simp only [Act.put, List.getElem_toArray, List.getElem_cons_zero, List.setIfInBounds_toArray, List.set_cons_succ, List.set_cons_zero]
        (refine wpAnyW_take (i := 1) (v := ?_) rfl (by kernel_rfl) (by kernel_rfl) (by kernel_rfl) (by kernel_rfl) (fun _ _ _ h => h) (Or.inl ⟨by kernel_rfl, ?_⟩) (by assumption) ?_; rotate_left; focus (intro V9 hS9; go_simp; (try (with_reducible rfl)); done))
        try simp only [Act.put, List.getElem_toArray, List.getElem_cons_succ, List.getElem_cons_zero, List.setIfInBounds_toArray, List.set_cons_succ, List.set_cons_zero]
        (refine wpAnyW_take (i := 2) (v := ?_) rfl (by kernel_rfl) (by kernel_rfl) (by kernel_rfl) (by kernel_rfl) (fun _ _ _ h => h) (Or.inl ⟨by kernel_rfl, ?_⟩) (by assumption) ?_; rotate_left; focus (intro V9 hS9; go_simp; (try (with_reducible rfl)); done))
        try simp only [Act.put, List.getElem_toArray, List.getElem_cons_succ, List.getElem_cons_zero, List.setIfInBounds_toArray, List.set_cons_succ, List.set_cons_zero]
        (refine wpAnyW_take (i := 3) (v := ?_) rfl (by kernel_rfl) (by kernel_rfl) (by kernel_rfl) (by kernel_rfl) (fun _ _ _ h => h) (Or.inl ⟨by kernel_rfl, ?_⟩) (by assumption) ?_; rotate_left; focus (intro V9 hS9; go_simp; (try (with_reducible rfl)); done))
        try simp only [Act.put, List.getElem_toArray, List.getElem_cons_succ, List.getElem_cons_zero, List.setIfInBounds_toArray, List.set_cons_succ, List.set_cons_zero]
        (refine wpAnyW_take (i := 4) (v := ?_) rfl (by kernel_rfl) (by kernel_rfl) (by kernel_rfl) (by kernel_rfl) (fun _ _ _ h => h) (Or.inl ⟨by kernel_rfl, ?_⟩) (by assumption) ?_; rotate_left; focus (intro V9 hS9; go_simp; (try (with_reducible rfl)); done))
        try simp only [Act.put, List.getElem_toArray, List.getElem_cons_succ, List.getElem_cons_zero, List.setIfInBounds_toArray, List.set_cons_succ, List.set_cons_zero]
        (refine wpAnyW_take (i := 5) (v := ?_) rfl (by kernel_rfl) (by kernel_rfl) (by kernel_rfl) (by kernel_rfl) (fun _ _ _ h => h) (Or.inl ⟨by kernel_rfl, ?_⟩) (by assumption) ?_; rotate_left; focus (intro V9 hS9; obtain ⟨g0, g1, g2, g3, g4⟩ := hS9; go_simp; (try (with_reducible rfl)); done))
        try simp only [Act.put, List.getElem_toArray, List.getElem_cons_succ, List.getElem_cons_zero, List.setIfInBounds_toArray, List.set_cons_succ, List.set_cons_zero]
        (refine wpAnyW_take (i := 6) (v := ?_) rfl (by kernel_rfl) (by kernel_rfl) (by kernel_rfl) (by kernel_rfl) (fun _ _ _ h => h) (Or.inl ⟨by kernel_rfl, ?_⟩) (by assumption) ?_; rotate_left; focus (intro V9 hS9; go_simp; (try (with_reducible rfl)); done))
        try simp only [Act.put, List.getElem_toArray, List.getElem_cons_succ, List.getElem_cons_zero, List.setIfInBounds_toArray, List.set_cons_succ, List.set_cons_zero]
        (refine wpAnyW_take (i := 7) (v := ?_) rfl (by kernel_rfl) (by kernel_rfl) (by kernel_rfl) (by kernel_rfl) (fun _ _ _ h => h) (Or.inl ⟨by kernel_rfl, ?_⟩) (by assumption) ?_; rotate_left; focus (intro V9 hS9; obtain ⟨g0, g1, g2, g3, g4⟩ := hS9; go_simp; (try (with_reducible rfl)); done))
        try simp only [Act.put, List.getElem_toArray, List.getElem_cons_succ, List.getElem_cons_zero, List.setIfInBounds_toArray, List.set_cons_succ, List.set_cons_zero]
        refine wpAnyW_ready (rs := [8]) (by kernel_rfl) (by simp) ?_
        refine AllReadyW.cons rfl (fun K hK => ?_) AllReadyW.nil
        go_simp
        refine (HIH.out V5.drew (HM5.out.keep (Below.refl _ _).drew)).mono ?_
        rw [MEnd_eq, HXW.out]
        rintro r w6 ⟨rfl, F2, hM6, hs6, hf6⟩
        have hX6 := hf6.blk (show Blk V5.drew gx 37 _ from HX5.out) (fun h9 => Nat.lt_irrefl _ (HG5.out gx h9))
        have hB6 := hf6.blk (show Blk V5.drew g0 29 _ from HB5.out) (fun h9 => Nat.lt_irrefl _ (HS.out g0 h9))
        refine hK.out _ _ (HSC2.out w6 F2 _ hM6 hX6) (fun _ => ?_)
        clear hK K
        try simp only [Act.put, List.getElem_toArray, List.getElem_cons_succ, List.getElem_cons_zero, List.setIfInBounds_toArray, List.set_cons_succ, List.set_cons_zero]
        refine wpAnyW_ready (rs := [9]) (by kernel_rfl) (by simp) ?_
        refine AllReadyW.cons rfl (fun K hK => ?_) AllReadyW.nil
        go_simp
        have hMA := hM6.keep (below_alloc w6 (.cells #[.int .u64 (xw : Int)] 34))
        refine hK.out _ _ (HSC2.out _ F2 _ hMA (hX6.alloc _)) (fun _ => ?_)
        clear hK K
        try simp only [Act.put, List.getElem_toArray, List.getElem_cons_succ, List.getElem_cons_zero, List.setIfInBounds_toArray, List.set_cons_succ, List.set_cons_zero]
        obtain ⟨vw, va, hP⟩ := hMA
        have hoR : (w6.alloc (.cells #[.int .u64 (xw : Int)] 34)).ownsRow W.heap.size 34 1 vr j (wj.map nv) := by have h9 := hP.rr; rw [HRL.out] at h9; exact h9
        have hszW := hP.old.size
        refine wpAnyW_ready (rs := [10]) (by kernel_rfl) (by simp) ?_
        refine AllReadyW.cons rfl (fun K hK => ?_) AllReadyW.nil
        refine step_appO uintsT (by kernel_rfl) (.tmp 29) (.tmp 33) rfl W.heap.size j (wj.map nv) vr hoR (some ⟨w6.heap.size, 0, none⟩) 1 1 [nv xw] (by rfl) (by rfl) rfl (blk_cs (Blk.new w6 _ _)) (nv_one [xw]) (by unfold maxLen; omega) (by omega) hszW ?_
        intro v7 w7 ho7 hg7 hat7
        have hO7 : Blk w7 pm 70 #[vw, va, vr, .map (some b1), .map (some b2)] := hP.obj.grown hg7 (fun e => (hP.apart.2.2.2.2 pm e.symm).1 rfl)
        have hvb : ∀ y, vr.ownBlock = some y → y ≠ gx ∧ y ≠ g0 := fun y hy => by
          obtain ⟨vw5, va5, h5⟩ := HM5.out
          have hFy := h5.fr y hy
          exact ⟨Nat.ne_of_lt (HG5.out y hFy), Nat.ne_of_gt (HS.out y hFy)⟩
        have hX7 := (hX6.alloc (.cells #[.int .u64 (xw : Int)] 34)).grown hg7 (fun e => (hvb gx e.symm).1 rfl)
        have hB7 := (hB6.alloc (.cells #[.int .u64 (xw : Int)] 34)).grown hg7 (fun e => (hvb g0 e.symm).2 rfl)
        refine hK.out _ _ ⟨hO7.cell 2, hX7.cell 0, hX7.cell 1, hX7.cell 2, hX7.cell 3⟩ (fun _ => ?_)
        clear hK K
        try simp only [Act.put, List.getElem_toArray, List.getElem_cons_succ, List.getElem_cons_zero, List.setIfInBounds_toArray, List.set_cons_succ, List.set_cons_zero]
        obtain ⟨A7, c7, rfl⟩ := own_sl ho7
        (refine wpAnyW_take (i := 11) (v := ?_) rfl (by kernel_rfl) (by kernel_rfl) (by kernel_rfl) (by kernel_rfl) (fun _ _ _ h => h) (Or.inl ⟨by kernel_rfl, ?_⟩) (by assumption) ?_; rotate_left; focus (intro V9 hS9; go_simp; (try (with_reducible rfl)); done))
        try simp only [Act.put, List.getElem_toArray, List.getElem_cons_succ, List.getElem_cons_zero, List.setIfInBounds_toArray, List.set_cons_succ, List.set_cons_zero]
        (refine wpAnyW_take (i := 12) (v := ?_) rfl (by kernel_rfl) (by kernel_rfl) (by kernel_rfl) (by kernel_rfl) (fun _ _ _ h => h) (Or.inl ⟨by kernel_rfl, ?_⟩) (by assumption) ?_; rotate_left; focus (intro V9 hS9; go_simp; (try (with_reducible rfl)); done))
        try simp only [Act.put, List.getElem_toArray, List.getElem_cons_succ, List.getElem_cons_zero, List.setIfInBounds_toArray, List.set_cons_succ, List.set_cons_zero]
        (refine wpAnyW_take (i := 13) (v := ?_) rfl (by kernel_rfl) (by kernel_rfl) (by kernel_rfl) (by kernel_rfl) (fun _ _ _ h => h) (Or.inl ⟨by kernel_rfl, ?_⟩) (by assumption) ?_; rotate_left; focus (intro V9 hS9; go_simp; (try (with_reducible rfl)); done))
        try simp only [Act.put, List.getElem_toArray, List.getElem_cons_succ, List.getElem_cons_zero, List.setIfInBounds_toArray, List.set_cons_succ, List.set_cons_zero]
        refine wpAnyW_ready (rs := [14]) (by kernel_rfl) (by simp) ?_
        refine AllReadyW.consE rfl (by kernel_rfl) (fun K hK => ?_) AllReadyW.nil
        have hfz := hO7.frozen 2
        have gc : w7.cell? ⟨pm, 2, none⟩ = some vr := hO7.cell 2
        go_simp
        refine hK.out _ _ ?_
        clear hK K
        refine wpAnyW_done (by kernel_rfl) ?_ _
        obtain ⟨k1, k2⟩ := hP.setR (rs' := wj ++ [xw]) (by simpa [HRL.out] using ho7) hg7 hat7
        have hEND : Hid ((∃ F', MK W (w7.setCell ⟨pm, 2, none⟩ (.slice A7 (j + 1) c7)) F' pm b1 b2 (wordS sj ti).1 (.slice A7 (j + 1) c7, wj ++ [xw]) ∧ ∀ x, F' x → g0 < x) ∧ Blk (w7.setCell ⟨pm, 2, none⟩ (.slice A7 (j + 1) c7)) g0 29 #[.slice none 0 0, .slice none 0 0, .slice none 0 0]) := by
          refine ⟨⟨_, ⟨_, _, k1⟩, fun x hx => ?_⟩, hB7.far (p := ⟨pm, 2, none⟩) (fun e => ?_) _⟩
          · rcases hx with hx | hx
            · rcases hs6 x hx with h9 | h9
              · exact HS.out x h9
              · exact Nat.lt_of_lt_of_le HB5.out.lt h9
            · rcases hat7 with h9 | h9
              · rw [h9] at hx
                rcases hs6 x (hP.fr x hx) with h8 | h8
                · exact HS.out x h8
                · exact Nat.lt_of_lt_of_le HB5.out.lt h8
              · rw [h9] at hx
                have h8 := Option.some.inj hx
                have h7 := hB6.lt
                simp at h8
                omega
          · obtain ⟨vw5, va5, h5⟩ := HM5.out
            have h9 := HS.out pm h5.fpm
            have h8 : g0 = pm := e
            omega
        clear hfz gc k1 k2 hB7 hX7 hO7 ho7 hg7 hat7 hoR hP hX6 hB6 hM6 hs6 hf6 hvb hszW hS0
        go_wp2
        go_roundw
        case rel =>
          obtain ⟨⟨F', k1, k2⟩, k3⟩ := hEND.out
          exact ⟨j + 1, F', _, by omega, by go_num, by rw [HTK.out, HXW.out]; exact k1, k2, k3⟩
        case measure => simp [intOf]; omega
      · obtain rfl : len = j := by omega
        have hd1 : decide (len < len) = false := by simp
        have htl : l.take len = l := List.take_of_length_le (by rw [HLEN.out]; exact Nat.le_refl _)
        rw [htl] at hM
        obtain ⟨vw, va, h⟩ := hM
        obtain ⟨Aw, cw, hw9⟩ := own_sl h.rw
        obtain ⟨Aa, ca, ha9⟩ := own_sl h.ra
        obtain ⟨Ar, cr, hr9⟩ := own_sl h.rr
        simp only at hr9
        subst hw9 ha9 hr9
        have HH := Lib.hid h
        have HS := Lib.hid hs
        have HB := Lib.hid hB
        have x0 := h.obj.cell 0
        have x1 := h.obj.cell 1
        have x2 := h.obj.cell 2
        have z0 := hB.cell 0
        have z1 := hB.cell 1
        have z2 := hB.cell 2
        have zf0 := hB.frozen 0
        have zf1 := hB.frozen 1
        have zf2 := hB.frozen 2
        clear h hs hB htl q1 q2 q3 q4 q5
        obtain ⟨nw, hnw⟩ : ∃ n, (wordsS st0 l).1.ws.length = n := ⟨_, rfl⟩
        obtain ⟨na, hna⟩ : ∃ n, (wordsS st0 l).1.nm.length = n := ⟨_, rfl⟩
        obtain ⟨nr, hnr⟩ : ∃ n, (wordsS st0 l).2.length = n := ⟨_, rfl⟩
        simp only [hnw, hna, hnr] at x0 x1 x2
        have HNW := Lib.hid (And.intro hnw (And.intro hna hnr))
        clear hnw hna hnr
        go_wp2
        have hB2 := HB.out.set3 (.slice Aw nw cw) (.slice Aa na ca) (.slice Ar nr cr)
        have y0 := hB2.cell 0
        have y1 := hB2.cell 1
        have y2 := hB2.cell 2
        refine bodyPost_ret (v := .tuple #[.agg #[.slice Aw nw cw, .slice Aa na ca, .slice Ar nr cr], .int .i64 0]) (by simp [results, Try.results11, go_sem, y0, y1, y2]) rfl ?_
        have hfr := fr_set3 wr g0 (.slice Aw nw cw) (.slice Aa na ca) (.slice Ar nr cr)
        refine ⟨HH.out.old.trans (hfr.below HH.out.old.size (fun k hk => by have := HG0.out; omega)), .inr ⟨HCZ.out, _, _, _, rfl, ?_⟩⟩
        have h9 := HH.out
        have ho : ∀ y, F y → ¬ y = g0 := fun y hy e => by have := HS.out y hy; omega
        obtain ⟨hn1, hn2, hn3⟩ := HNW.out
        exact {
          w := by have := own_at h9.rw (fun k hk => hfr.block k (own_heap h9.rw hk).2.1 (ho k (h9.fw k hk))); simpa [layS, hn1] using this
          a := by have := own_at h9.ra (fun k hk => hfr.block k (own_heap h9.ra hk).2.1 (ho k (h9.fa k hk))); simpa [layS, hn2] using this
          r := by have := own_at h9.rr (fun k hk => hfr.block k (own_heap h9.rr hk).2.1 (ho k (h9.fr k hk))); simpa [layS, hn3] using this }
end
end
end Go.Proofs.Ytefnjplfemgibaa
