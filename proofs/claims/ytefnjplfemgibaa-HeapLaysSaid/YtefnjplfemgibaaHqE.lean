/- Heap (layer 9): the document's word of every term, its Lay. Written by hqgene.py. -/
import Derived.Test.YtefnjplfemgibaaHqD
namespace Go.Proofs.Ytefnjplfemgibaa
open Go.RowKit
set_option linter.unusedVariables false

section
variable {w0 W V V' : World} {F F2 : Nat → Prop} {pm : Nat} {st : HSt} {rs : Value × List Nat}
theorem rword_any (N : Nat) : ∀ (t : TV) (A : Option Addr) (c : Nat) (st : HSt) (F : Nat → Prop) (W : World), t.parts ≤ N → t.parts ≤ 10000 → t.isT = true → RdM w0 A c t.items → QK w0 W F pm st rs → HOk st → HLen st → st.ws.length + 3 * t.parts ≤ 100000 → st.nm.length + t.parts ≤ 100000 → st.cs.length + t.parts ≤ 100000 →
    Calls Try.prog 35 #[.pointer (some ⟨pm, 0, none⟩), .agg #[.int .i64 t.kind, .int .i64 t.int, .string ⟨t.name.toArray⟩, .slice A t.items.length c]] W (QEnd w0 W F pm (wordS st t) rs) := by
  induction N with
  | zero => intro t _ _ _ _ _ h; have := t.parts_pos; omega
  | succ N ih =>
    intro t A c st F W hN h4 hT hR hM hok hln hz1 hz2 hz3
    rw [TV.isT_eq, Bool.and_eq_true] at hT
    have hp := t.parts_eq
    have hlp := len_parts t.items
    rw [wordS_eq]
    rw [hp] at hz1 hz2 hz3
    refine rword_loop t.kind t.int t.name t.items A t.items.length c st F W rfl (by omega) hT.1 hT.2 hR hM hok hln hz1 hz2 hz3 ?_
    intro i h A' c' st' F' W' hR' hM' hok' hln' g1 g2 g3
    have hpi := parts_item t.items i h
    have hTi : t.items[i].isT = true := by
      cases h9 : t.items[i].isT with
      | true => rfl
      | false => have := isL_no t.items i h h9; rw [this] at hT; cases hT.2
    exact ih t.items[i] A' c' st' F' W' (by omega) (by omega) hTi hR' hM' hok' hln' g1 g2 g3
end
theorem QK_new (w0 W : World) (hW : Below w0.heap.size w0 W) : QK w0 (W.alloc (.cells #[.slice none 0 0, .slice none 0 0, .slice none 0 0, .slice none 0 0] 76)) (fun k => k = W.heap.size) W.heap.size st0 (.slice none 0 0, []) := by
  have hs := hW.size
  have hn : ∀ k, (Value.slice none 0 0).ownBlock = some k → False := fun k hk => by cases hk
  refine ⟨.slice none 0 0, .slice none 0 0, .slice none 0 0, fun _ => False, [], ?_, rfl, fun i h1 _ => by simp [st0] at h1⟩
  exact {
    old := hW.trans ((below_alloc W _).mono hs)
    fresh := fun k hk => ⟨by rw [hk]; exact hs, by rw [hk]; simp⟩
    obj := Blk.new W 76 #[.slice none 0 0, .slice none 0 0, .slice none 0 0, .slice none 0 0]
    fpm := rfl
    gf := fun k hk => hk.elim
    rw := World.ownsRow_nil _ _ _ _
    ra := World.ownsRow_nil _ _ _ _
    rr := World.ownsRow_nil _ _ _ _
    rc := World.ownsRow_nil _ _ _ _
    fw := fun k hk => (hn k hk).elim
    fa := fun k hk => (hn k hk).elim
    fr := fun k hk => (hn k hk).elim
    fc := fun k hk => (hn k hk).elim
    nwa := fun k hk => (hn k hk).elim
    nwr := fun k hk => (hn k hk).elim
    nwc := fun k hk => (hn k hk).elim
    nar := fun k hk => (hn k hk).elim
    nac := fun k hk => (hn k hk).elim
    nrc := fun k hk => (hn k hk).elim }
section
variable {W V V' : World}
set_option maxRecDepth 100000 in
set_option maxHeartbeats 4000000 in
theorem rlay_v (l : List TV) (A : Option Addr) (len c : Nat) (W : World) (hlen : l.length = len) (hnm : TV.namedL l) (hR : RdM W A c l) :
    Calls Try.prog 15 #[.slice A len c] W (LayEnds W l) := by
  have HCK : Hid (∀ V, Below W.heap.size W V → Calls Try.prog 8 #[.slice A len c] V fun e w' => e = .returned (.int .i64 (checkP l : Nat)) ∧ Below V.heap.size V w') := fun V hV => rcheck_any l A len c W V hlen hnm hV hR
  have HLEN := Lib.hid hlen
  have HR := Lib.hid hR
  clear hlen hnm hR
  obtain ⟨g0, hg0⟩ : ∃ g, W.heap.size = g := ⟨_, rfl⟩
  have HG0 := Lib.hid hg0
  by_cases hck : checkP l = 0
  rotate_left
  · obtain ⟨ck, hce⟩ : ∃ ck, checkP l = ck := ⟨_, rfl⟩
    rw [hce] at HCK hck
    have HCE := Lib.hid hce
    have hd : ((ck : Int) == 0) = false := by simpa using hck
    have HCN := Lib.hid hck
    clear hce hck
    go_enter Try.func15, Try.ntmps15
    go_upto_region 1 with (fail)
    refine wp_world (fun V => Below W.heap.size W V ∧ Blk V g0 29 #[.slice none 0 0, .slice none 0 0, .slice none 0 0]) ⟨below_alloc _ _, by rw [← HG0.out]; exact Blk.new _ _ _⟩ ?_
    rintro V ⟨hb, hk⟩
    have HB := Lib.hid hb
    have HK := Lib.hid hk
    clear hb hk hg0
    go_upto_region 2 with (go_at_call 8; refine (HCK.out V HB.out).mono ?_; rintro e w1 ⟨rfl, hb1⟩)
    refine wp_world (fun V => Below W.heap.size W V ∧ Blk V g0 29 #[.slice none 0 0, .slice none 0 0, .slice none 0 0]) ⟨below_step HB.out hb1, HK.out.keep hb1⟩ ?_
    clear hb1 HB HK
    rintro V ⟨hb, hk⟩
    have HB := Lib.hid hb
    have HK := Lib.hid hk
    have z0 := hk.cell 0
    have z1 := hk.cell 1
    have z2 := hk.cell 2
    have zf0 := hk.frozen 0
    have zf1 := hk.frozen 1
    have zf2 := hk.frozen 2
    clear hb hk
    go_wp2
    have hB2 := HK.out.set3 (.slice none 0 0) (.slice none 0 0) (.slice none 0 0)
    have y0 := hB2.cell 0
    have y1 := hB2.cell 1
    have y2 := hB2.cell 2
    refine bodyPost_ret (v := .tuple #[.agg #[.slice none 0 0, .slice none 0 0, .slice none 0 0], .int .i64 (ck : Int)]) (by simp [results, Try.results15, go_sem, y0, y1, y2]) rfl ?_
    refine ⟨?_, .inl ⟨by rw [HCE.out]; exact HCN.out, by rw [HCE.out]⟩⟩
    exact HB.out.trans ((fr_set3 V g0 _ _ _).below HB.out.size (fun k hk => by have := HG0.out; omega))
  · obtain ⟨hpl, hL⟩ := hcheck_le hck
    rw [hck] at HCK
    have HCZ := Lib.hid hck
    have HPL := Lib.hid hpl
    have HL := Lib.hid hL
    have hlenb : len ≤ 4096 := by have := len_parts l; have := HLEN.out; omega
    clear hck hpl hL
    go_enter Try.func15, Try.ntmps15
    go_upto_region 1 with (fail)
    refine wp_world (fun V => Below W.heap.size W V ∧ Blk V g0 29 #[.slice none 0 0, .slice none 0 0, .slice none 0 0]) ⟨below_alloc _ _, by rw [← HG0.out]; exact Blk.new _ _ _⟩ ?_
    rintro V ⟨hb, hk⟩
    have HB := Lib.hid hb
    have HK := Lib.hid hk
    clear hb hk hg0
    go_upto_region 4 with (go_at_call 8; refine (HCK.out V HB.out).mono ?_; rintro e w1 ⟨rfl, hb1⟩)
    refine wp_world (fun V => Below W.heap.size W V ∧ Blk V g0 29 #[.slice none 0 0, .slice none 0 0, .slice none 0 0]) ⟨below_step HB.out hb1, HK.out.keep hb1⟩ ?_
    clear hb1 HB HK
    rintro V ⟨hb, hk⟩
    have HB := Lib.hid hb
    have HK := Lib.hid hk
    have HN := Lib.hid (QK_new W V hb)
    have HGV := Lib.hid hk.lt
    clear hb hk
    go_upto_region 5 with (fail)
    refine wp_world (fun V' => (∃ F, QK W V' F V.heap.size st0 (.slice none 0 0, []) ∧ ∀ x, F x → g0 < x) ∧ Blk V' g0 29 #[.slice none 0 0, .slice none 0 0, .slice none 0 0]) ⟨⟨_, HN.out, fun (x : Nat) (hx : x = V.heap.size) => by rw [hx]; exact HGV.out⟩, HK.out.alloc _⟩ ?_
    clear HN HB HK HGV
    rintro V1 ⟨⟨F1, hM1, hF1⟩, hK1⟩
    generalize hpm : V.heap.size = pm at *
    clear hpm
    have HM1 := Lib.hid hM1
    have HF1 := Lib.hid hF1
    have HK1 := Lib.hid hK1
    clear hM1 hF1 hK1
    go_wp2
    go_loopw [6] (fun i wr => ∃ (j : Nat) (F : Nat → Prop) (vr : Value), j ≤ len ∧ i = .int .i64 j ∧ QK W wr F pm (wordsS st0 (l.take j)).1 (vr, (wordsS st0 (l.take j)).2) ∧ (∀ x, F x → g0 < x) ∧ Blk wr g0 29 #[.slice none 0 0, .slice none 0 0, .slice none 0 0]) (fun i _ => len - (intOf i).toNat)
    case atStart => exact ⟨0, F1, .slice none 0 0, Nat.zero_le _, rfl, (by simpa [wordsS_nil] using HM1.out), HF1.out, HK1.out⟩
    case round =>
      obtain ⟨j, F, vr, hj, rfl, hM, hs, hB⟩ := hrel
      clear HM1 HF1 HK1
      obtain ⟨⟨q1, q2, q3, q4⟩, q5⟩ := wordsS_ok (l.take j) st0 st0_ok (by have := HPL.out; have := partsL_take_le l j; simp [st0]; omega) (by have := HPL.out; have := partsL_take_le l j; simp [st0]; omega)
      by_cases hlt : j < len
      · have hd1 : decide (j < len) = true := by simp; omega
        have hkl : j < l.length := by rw [HLEN.out]; exact hlt
        obtain ⟨b, o, A', c', rfl, e0', e1', e2', e3', hR'⟩ := HR.out.item hkl
        have HSE : Hid (∀ V, Below W.heap.size W V → V.cell? ⟨b, o + j * 4, none⟩ = some (.int .i64 l[j].kind) ∧ V.cell? ⟨b, o + j * 4 + 1, none⟩ = some (.int .i64 l[j].int) ∧ V.cell? ⟨b, o + j * 4 + 2, none⟩ = some (.string ⟨l[j].name.toArray⟩) ∧ V.cell? ⟨b, o + j * 4 + 3, none⟩ = some (.slice A' l[j].items.length c')) := fun V hV => ⟨(hV.cell (World.block_lt_of_cell? W _ e0')).trans e0', (hV.cell (World.block_lt_of_cell? W _ e1')).trans e1', (hV.cell (World.block_lt_of_cell? W _ e2')).trans e2', (hV.cell (World.block_lt_of_cell? W _ e3')).trans e3'⟩
        have htk := wordsS_take st0 l j hkl
        have hpt := partsL_take l j hkl
        have hpl := partsL_take_le l (j + 1)
        have hz := HPL.out
        have hTi : l[j].isT = true := by
          cases h9 : l[j].isT with
          | true => rfl
          | false => have h8 := isL_no l j hkl h9; have h7 := HL.out; rw [h8] at h7; cases h7
        simp only [st0, List.length_nil, Nat.zero_add] at q2 q3 q4
        have hq9 := wordsS_hlen (l.take j) st0 (fun c hc => by cases hc) (by have := partsL_take_le l j; omega)
        have HIH := Lib.hid (fun (V5 : World) (hM5 : QK W V5 F pm (wordsS st0 (l.take j)).1 (vr, (wordsS st0 (l.take j)).2)) => rword_any l[j].parts l[j] A' c' (wordsS st0 (l.take j)).1 F V5 (Nat.le_refl _) (by omega) hTi hR' hM5 q1 hq9 (by simp only [st0] at *; omega) (by simp only [st0] at *; omega) (by simp only [st0] at *; omega))
        have HTK := Lib.hid htk
        have HRL := Lib.hid (show (wordsS st0 (l.take j)).2.length = j by rw [wordsS_len, List.length_take]; omega)
        clear hq9 e0' e1' e2' e3' htk hpt hpl hz hR' q1 q2 q3 q4 q5 hTi
        generalize l[j] = ti at *
        generalize hsj : (wordsS st0 (l.take j)).1 = sj at *
        generalize hwj : (wordsS st0 (l.take j)).2 = wj at *
        obtain ⟨xw, hxw⟩ : ∃ xw, (wordS sj ti).2 = xw := ⟨_, rfl⟩
        have HXW := Lib.hid hxw
        have HMj := Lib.hid hM
        have HS := Lib.hid hs
        have HB := Lib.hid hB
        clear hM hs hB hxw hsj hwj hkl
        have hq1 : (0 : Int) ≤ (j : Int) := by omega
        have hq2 : (j : Int) < (len : Int) := by omega
        have HSC : Hid (∀ V F' st', QK W V F' pm st' (vr, wj) → (V.cell? ⟨pm, 2, none⟩ = some vr ∧ V.cell? ⟨b, o + j * 4, none⟩ = some (.int .i64 ti.kind) ∧ V.cell? ⟨b, o + j * 4 + 1, none⟩ = some (.int .i64 ti.int) ∧ V.cell? ⟨b, o + j * 4 + 2, none⟩ = some (.string ⟨ti.name.toArray⟩) ∧ V.cell? ⟨b, o + j * 4 + 3, none⟩ = some (.slice A' ti.items.length c'))) := fun V F' st' hM => by
          have ho := hM.old
          obtain ⟨vw, va, vc, G, az, h, _⟩ := hM
          exact ⟨h.obj.cell 2, HSE.out V ho⟩
        have HSE2 := HSE
        clear HSE
        go_upto_region 8 with (fail)
        refine wp_region_W 17 (fun V => V.cell? ⟨pm, 2, none⟩ = some vr ∧ V.cell? ⟨b, o + j * 4, none⟩ = some (.int .i64 ti.kind) ∧ V.cell? ⟨b, o + j * 4 + 1, none⟩ = some (.int .i64 ti.int) ∧ V.cell? ⟨b, o + j * 4 + 2, none⟩ = some (.string ⟨ti.name.toArray⟩) ∧ V.cell? ⟨b, o + j * 4 + 3, none⟩ = some (.slice A' ti.items.length c')) (by kernel_rfl) ?_ (fun hS0 => ?_)
        · exact HSC.out wr.drew F _ (HMj.out.keep (Below.refl _ _).drew)
        (refine wpAnyW_take (i := 0) (v := ?_) rfl (by kernel_rfl) (by kernel_rfl) (by kernel_rfl) (by kernel_rfl) (fun _ _ _ h => h) (Or.inl ⟨by kernel_rfl, ?_⟩) (by assumption) ?_; rotate_left; focus (intro V9 hS9; go_simp; (try (with_reducible rfl)); done))
        try simp only [Act.put, List.getElem_toArray, List.getElem_cons_zero, List.setIfInBounds_toArray, List.set_cons_succ, List.set_cons_zero]
        (refine wpAnyW_take (i := 1) (v := ?_) rfl (by kernel_rfl) (by kernel_rfl) (by kernel_rfl) (by kernel_rfl) (fun _ _ _ h => h) (Or.inl ⟨by kernel_rfl, ?_⟩) (by assumption) ?_; rotate_left; focus (intro V9 hS9; go_simp; (try (with_reducible rfl)); done))
        try simp only [Act.put, List.getElem_toArray, List.getElem_cons_succ, List.getElem_cons_zero, List.setIfInBounds_toArray, List.set_cons_succ, List.set_cons_zero]
        (refine wpAnyW_take (i := 2) (v := ?_) rfl (by kernel_rfl) (by kernel_rfl) (by kernel_rfl) (by kernel_rfl) (fun _ _ _ h => h) (Or.inl ⟨by kernel_rfl, ?_⟩) (by assumption) ?_; rotate_left; focus (intro V9 hS9; go_simp; (try (with_reducible rfl)); done))
        try simp only [Act.put, List.getElem_toArray, List.getElem_cons_succ, List.getElem_cons_zero, List.setIfInBounds_toArray, List.set_cons_succ, List.set_cons_zero]
        (refine wpAnyW_take (i := 3) (v := ?_) rfl (by kernel_rfl) (by kernel_rfl) (by kernel_rfl) (by kernel_rfl) (fun _ _ _ h => h) (Or.inl ⟨by kernel_rfl, ?_⟩) (by assumption) ?_; rotate_left; focus (intro V9 hS9; go_simp; (try (with_reducible rfl)); done))
        try simp only [Act.put, List.getElem_toArray, List.getElem_cons_succ, List.getElem_cons_zero, List.setIfInBounds_toArray, List.set_cons_succ, List.set_cons_zero]
        (refine wpAnyW_take (i := 4) (v := ?_) rfl (by kernel_rfl) (by kernel_rfl) (by kernel_rfl) (by kernel_rfl) (fun _ _ _ h => h) (Or.inl ⟨by kernel_rfl, ?_⟩) (by assumption) ?_; rotate_left; focus (intro V9 hS9; go_simp; (try (with_reducible rfl)); done))
        try simp only [Act.put, List.getElem_toArray, List.getElem_cons_succ, List.getElem_cons_zero, List.setIfInBounds_toArray, List.set_cons_succ, List.set_cons_zero]
        (refine wpAnyW_take (i := 5) (v := ?_) rfl (by kernel_rfl) (by kernel_rfl) (by kernel_rfl) (by kernel_rfl) (fun _ _ _ h => h) (Or.inl ⟨by kernel_rfl, ?_⟩) (by assumption) ?_; rotate_left; focus (intro V9 hS9; obtain ⟨g0, g1, g2, g3, g4⟩ := hS9; go_simp; (try (with_reducible rfl)); done))
        try simp only [Act.put, List.getElem_toArray, List.getElem_cons_succ, List.getElem_cons_zero, List.setIfInBounds_toArray, List.set_cons_succ, List.set_cons_zero]
        (refine wpAnyW_take (i := 6) (v := ?_) rfl (by kernel_rfl) (by kernel_rfl) (by kernel_rfl) (by kernel_rfl) (fun _ _ _ h => h) (Or.inl ⟨by kernel_rfl, ?_⟩) (by assumption) ?_; rotate_left; focus (intro V9 hS9; go_simp; (try (with_reducible rfl)); done))
        try simp only [Act.put, List.getElem_toArray, List.getElem_cons_succ, List.getElem_cons_zero, List.setIfInBounds_toArray, List.set_cons_succ, List.set_cons_zero]
        (refine wpAnyW_take (i := 7) (v := ?_) rfl (by kernel_rfl) (by kernel_rfl) (by kernel_rfl) (by kernel_rfl) (fun _ _ _ h => h) (Or.inl ⟨by kernel_rfl, ?_⟩) (by assumption) ?_; rotate_left; focus (intro V9 hS9; go_simp; (try (with_reducible rfl)); done))
        try simp only [Act.put, List.getElem_toArray, List.getElem_cons_succ, List.getElem_cons_zero, List.setIfInBounds_toArray, List.set_cons_succ, List.set_cons_zero]
        (refine wpAnyW_take (i := 8) (v := ?_) rfl (by kernel_rfl) (by kernel_rfl) (by kernel_rfl) (by kernel_rfl) (fun _ _ _ h => h) (Or.inl ⟨by kernel_rfl, ?_⟩) (by assumption) ?_; rotate_left; focus (intro V9 hS9; go_simp; (try (with_reducible rfl)); done))
        try simp only [Act.put, List.getElem_toArray, List.getElem_cons_succ, List.getElem_cons_zero, List.setIfInBounds_toArray, List.set_cons_succ, List.set_cons_zero]
        (refine wpAnyW_take (i := 9) (v := ?_) rfl (by kernel_rfl) (by kernel_rfl) (by kernel_rfl) (by kernel_rfl) (fun _ _ _ h => h) (Or.inl ⟨by kernel_rfl, ?_⟩) (by assumption) ?_; rotate_left; focus (intro V9 hS9; go_simp; (try (with_reducible rfl)); done))
        try simp only [Act.put, List.getElem_toArray, List.getElem_cons_succ, List.getElem_cons_zero, List.setIfInBounds_toArray, List.set_cons_succ, List.set_cons_zero]
        (refine wpAnyW_take (i := 10) (v := ?_) rfl (by kernel_rfl) (by kernel_rfl) (by kernel_rfl) (by kernel_rfl) (fun _ _ _ h => h) (Or.inl ⟨by kernel_rfl, ?_⟩) (by assumption) ?_; rotate_left; focus (intro V9 hS9; obtain ⟨g0, g1, g2, g3, g4⟩ := hS9; go_simp; (try (with_reducible rfl)); done))
        try simp only [Act.put, List.getElem_toArray, List.getElem_cons_succ, List.getElem_cons_zero, List.setIfInBounds_toArray, List.set_cons_succ, List.set_cons_zero]
        refine wpAnyW_ready (rs := [11]) (by kernel_rfl) (by simp) ?_
        refine AllReadyW.cons rfl (fun K hK => ?_) AllReadyW.nil
        go_simp
        refine (HIH.out wr.drew (HMj.out.keep (Below.refl _ _).drew)).mono ?_
        rw [QEnd_eq, HXW.out]
        rintro r w6 ⟨rfl, F2, hM6, hs6, hf6⟩
        have hB6 := hf6.blk (show Blk wr.drew g0 29 _ from HB.out) (fun h9 => Nat.lt_irrefl _ (HS.out g0 h9))
        refine hK.out _ _ (HSC.out w6 F2 _ hM6) (fun _ => ?_)
        clear hK K
        try simp only [Act.put, List.getElem_toArray, List.getElem_cons_succ, List.getElem_cons_zero, List.setIfInBounds_toArray, List.set_cons_succ, List.set_cons_zero]
        refine wpAnyW_ready (rs := [12]) (by kernel_rfl) (by simp) ?_
        refine AllReadyW.cons rfl (fun K hK => ?_) AllReadyW.nil
        go_simp
        have hMA := hM6.keep (below_alloc w6 (.cells #[.int .u64 (xw : Int)] 34))
        refine hK.out _ _ (HSC.out _ F2 _ hMA) (fun _ => ?_)
        clear hK K
        try simp only [Act.put, List.getElem_toArray, List.getElem_cons_succ, List.getElem_cons_zero, List.setIfInBounds_toArray, List.set_cons_succ, List.set_cons_zero]
        obtain ⟨vw, va, vc, G, az, hP, hPK⟩ := hMA
        have hoR : (w6.alloc (.cells #[.int .u64 (xw : Int)] 34)).ownsRow W.heap.size 34 1 vr j (wj.map nv) := by have h9 := hP.rr; rw [HRL.out] at h9; exact h9
        have hszW := hP.old.size
        refine wpAnyW_ready (rs := [13]) (by kernel_rfl) (by simp) ?_
        refine AllReadyW.cons rfl (fun K hK => ?_) AllReadyW.nil
        refine step_appO uintsT (by kernel_rfl) (.tmp 26) (.tmp 33) rfl W.heap.size j (wj.map nv) vr hoR (some ⟨w6.heap.size, 0, none⟩) 1 1 [nv xw] (by rfl) (by rfl) rfl (blk_cs (Blk.new w6 _ _)) (nv_one [xw]) (by unfold maxLen; omega) (by omega) hszW ?_
        intro v7 w7 ho7 hg7 hat7
        have hO7 : Blk w7 pm 76 #[vw, va, vr, vc] := hP.obj.grown hg7 (fun e => (hP.fr pm e.symm).2.1 rfl)
        have hvb : ∀ y, vr.ownBlock = some y → y ≠ g0 := fun y hy => by
          obtain ⟨vw5, va5, vc5, G5, az5, h5, _⟩ := HMj.out
          exact Nat.ne_of_gt (HS.out y (h5.fr y hy).1)
        have hB7 := (hB6.alloc (.cells #[.int .u64 (xw : Int)] 34)).grown hg7 (fun e => hvb g0 e.symm rfl)
        have hQ7 : QKp W w7 F2 G pm vw va vr vc (wordS sj ti).1.ws (wordS sj ti).1.nm wj (wordS sj ti).1.cs.length (cellsK (wordS sj ti).1.cs az) → True := fun _ => trivial
        have hold7 : Below W.heap.size W w7 := hP.old.trans ⟨hg7.os, hg7.tape, hg7.output, hg7.size, fun k hk => hg7.block k (Nat.lt_of_lt_of_le hk hszW) (fun e => by have h9 := (own_heap hoR e.symm).1; omega)⟩
        refine hK.out _ _ ⟨hO7.cell 2, HSE2.out w7 hold7⟩ (fun _ => ?_)
        clear hK K hQ7 hold7
        try simp only [Act.put, List.getElem_toArray, List.getElem_cons_succ, List.getElem_cons_zero, List.setIfInBounds_toArray, List.set_cons_succ, List.set_cons_zero]
        obtain ⟨A7, c7, rfl⟩ := own_sl ho7
        (refine wpAnyW_take (i := 14) (v := ?_) rfl (by kernel_rfl) (by kernel_rfl) (by kernel_rfl) (by kernel_rfl) (fun _ _ _ h => h) (Or.inl ⟨by kernel_rfl, ?_⟩) (by assumption) ?_; rotate_left; focus (intro V9 hS9; go_simp; (try (with_reducible rfl)); done))
        try simp only [Act.put, List.getElem_toArray, List.getElem_cons_succ, List.getElem_cons_zero, List.setIfInBounds_toArray, List.set_cons_succ, List.set_cons_zero]
        (refine wpAnyW_take (i := 15) (v := ?_) rfl (by kernel_rfl) (by kernel_rfl) (by kernel_rfl) (by kernel_rfl) (fun _ _ _ h => h) (Or.inl ⟨by kernel_rfl, ?_⟩) (by assumption) ?_; rotate_left; focus (intro V9 hS9; go_simp; (try (with_reducible rfl)); done))
        try simp only [Act.put, List.getElem_toArray, List.getElem_cons_succ, List.getElem_cons_zero, List.setIfInBounds_toArray, List.set_cons_succ, List.set_cons_zero]
        (refine wpAnyW_take (i := 16) (v := ?_) rfl (by kernel_rfl) (by kernel_rfl) (by kernel_rfl) (by kernel_rfl) (fun _ _ _ h => h) (Or.inl ⟨by kernel_rfl, ?_⟩) (by assumption) ?_; rotate_left; focus (intro V9 hS9; go_simp; (try (with_reducible rfl)); done))
        try simp only [Act.put, List.getElem_toArray, List.getElem_cons_succ, List.getElem_cons_zero, List.setIfInBounds_toArray, List.set_cons_succ, List.set_cons_zero]
        refine wpAnyW_ready (rs := [17]) (by kernel_rfl) (by simp) ?_
        refine AllReadyW.consE rfl (by kernel_rfl) (fun K hK => ?_) AllReadyW.nil
        have hfz := hO7.frozen 2
        have gc : w7.cell? ⟨pm, 2, none⟩ = some vr := hO7.cell 2
        go_simp
        refine hK.out _ _ ?_
        clear hK K
        refine wpAnyW_done (by kernel_rfl) ?_ _
        obtain ⟨k1, k2⟩ := hP.setR (rs' := wj ++ [xw]) (by simpa [HRL.out] using ho7) hg7 hat7
        have k3 := hPK.far fun k hk => k2.block k (hP.fresh k (hP.gf k hk).1).2 (fun h9 => h9.2 hk)
        have hEND : Hid ((∃ F', QK W (w7.setCell ⟨pm, 2, none⟩ (.slice A7 (j + 1) c7)) F' pm (wordS sj ti).1 (.slice A7 (j + 1) c7, wj ++ [xw]) ∧ ∀ x, F' x → g0 < x) ∧ Blk (w7.setCell ⟨pm, 2, none⟩ (.slice A7 (j + 1) c7)) g0 29 #[.slice none 0 0, .slice none 0 0, .slice none 0 0]) := by
          refine ⟨⟨_, ⟨_, _, _, _, _, k1, k3⟩, fun x hx => ?_⟩, hB7.far (p := ⟨pm, 2, none⟩) (fun e => ?_) _⟩
          · rcases hx with hx | hx
            · rcases hs6 x hx with h9 | h9
              · exact HS.out x h9
              · exact Nat.lt_of_lt_of_le HB.out.lt h9
            · rcases hat7 with h9 | h9
              · rw [h9] at hx
                rcases hs6 x (hP.fr x hx).1 with h8 | h8
                · exact HS.out x h8
                · exact Nat.lt_of_lt_of_le HB.out.lt h8
              · rw [h9] at hx
                have h8 := Option.some.inj hx
                have h7 := hB6.lt
                simp at h8
                omega
          · obtain ⟨vw5, va5, vc5, G5, az5, h5, _⟩ := HMj.out
            have h9 := HS.out pm h5.fpm
            have h8 : g0 = pm := e
            omega
        clear hfz gc k1 k2 k3 hB7 hO7 ho7 hg7 hat7 hoR hP hPK hB6 hM6 hs6 hf6 hvb hszW hS0
        go_wp2
        go_roundw
        case rel =>
          obtain ⟨⟨F', k1, k2⟩, k3⟩ := hEND.out
          exact ⟨j + 1, F', _, by omega, by go_num, by rw [HTK.out, HXW.out]; exact k1, k2, k3⟩
        case measure => simp [intOf]; omega
      · obtain rfl : len = j := by omega
        have hd1 : decide (len < len) = false := by simp
        have htl : l.take len = l := List.take_of_length_le (by rw [HLEN.out]; exact Nat.le_refl _)
        rw [htl] at hM
        obtain ⟨vw, va, vc, G, az, h, _⟩ := hM
        obtain ⟨Aw, cw, hw9⟩ := own_sl h.rw
        obtain ⟨Aa, ca, ha9⟩ := own_sl h.ra
        obtain ⟨Ar, cr, hr9⟩ := own_sl h.rr
        simp only at hr9
        subst hw9 ha9 hr9
        have HH := Lib.hid h
        have HS := Lib.hid hs
        have HB := Lib.hid hB
        have x0 := h.obj.cell 0
        have x1 := h.obj.cell 1
        have x2 := h.obj.cell 2
        have z0 := hB.cell 0
        have z1 := hB.cell 1
        have z2 := hB.cell 2
        have zf0 := hB.frozen 0
        have zf1 := hB.frozen 1
        have zf2 := hB.frozen 2
        clear h hs hB htl q1 q2 q3 q4 q5
        obtain ⟨nw, hnw⟩ : ∃ n, (wordsS st0 l).1.ws.length = n := ⟨_, rfl⟩
        obtain ⟨na, hna⟩ : ∃ n, (wordsS st0 l).1.nm.length = n := ⟨_, rfl⟩
        obtain ⟨nr, hnr⟩ : ∃ n, (wordsS st0 l).2.length = n := ⟨_, rfl⟩
        simp only [hnw, hna, hnr] at x0 x1 x2
        have HNW := Lib.hid (And.intro hnw (And.intro hna hnr))
        clear hnw hna hnr
        go_wp2
        have hB2 := HB.out.set3 (.slice Aw nw cw) (.slice Aa na ca) (.slice Ar nr cr)
        have y0 := hB2.cell 0
        have y1 := hB2.cell 1
        have y2 := hB2.cell 2
        refine bodyPost_ret (v := .tuple #[.agg #[.slice Aw nw cw, .slice Aa na ca, .slice Ar nr cr], .int .i64 0]) (by simp [results, Try.results15, go_sem, y0, y1, y2]) rfl ?_
        have hfr := fr_set3 wr g0 (.slice Aw nw cw) (.slice Aa na ca) (.slice Ar nr cr)
        refine ⟨HH.out.old.trans (hfr.below HH.out.old.size (fun k hk => by have := HG0.out; omega)), .inr ⟨HCZ.out, _, _, _, rfl, ?_⟩⟩
        have h9 := HH.out
        have ho : ∀ y, F y → ¬ y = g0 := fun y hy e => by have := HS.out y hy; omega
        obtain ⟨hn1, hn2, hn3⟩ := HNW.out
        exact {
          w := by have := own_at h9.rw (fun k hk => hfr.block k (own_heap h9.rw hk).2.1 (ho k (h9.fw k hk).1)); simpa [layS, hn1] using this
          a := by have := own_at h9.ra (fun k hk => hfr.block k (own_heap h9.ra hk).2.1 (ho k (h9.fa k hk).1)); simpa [layS, hn2] using this
          r := by have := own_at h9.rr (fun k hk => hfr.block k (own_heap h9.rr hk).2.1 (ho k (h9.fr k hk).1)); simpa [layS, hn3] using this }
end
end Go.Proofs.Ytefnjplfemgibaa
