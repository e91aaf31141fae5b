/- Arith (layer 14): term.Elements. -/
import Derived.Test.YtbpnlpjbjmojfaaGreatArH
namespace Go.Proofs.YtbpnlpjbjmojfaaGreat
open Go.RowKit
set_option linter.unusedVariables false

/-- A list's elements. -/
def elsF : Nat → TV → Option (List TV)
  | 0, _ => none
  | n + 1, t => if t.kind = 8 ∧ t.items.length = 2 then (elsF n (t.items.getD 1 tZ)).map (t.items.getD 0 tZ :: ·) else if t.kind = 7 then some [] else none
def elsT (t : TV) : Option (List TV) := elsF t.parts t
theorem tail_parts {t : TV} (h : t.items.length = 2) : (t.items.getD 1 tZ).parts < t.parts := by
  have h1 : (1 : Nat) < t.items.length := by omega
  have := parts_item t.items 1 h1
  rw [show t.items.getD 1 tZ = t.items[1] by simp [List.getD, h1], t.parts_eq]
  omega
theorem elsF_more : ∀ (n m : Nat) (t : TV), t.parts ≤ n → t.parts ≤ m → elsF n t = elsF m t
  | 0, _, t, h, _ => by have := t.parts_pos; omega
  | _ + 1, 0, t, _, h => by have := t.parts_pos; omega
  | n + 1, m + 1, t, h, h' => by
    unfold elsF
    by_cases hk : t.kind = 8 ∧ t.items.length = 2
    · have := tail_parts hk.2
      rw [if_pos hk, if_pos hk, elsF_more n m _ (by omega) (by omega)]
    · rw [if_neg hk, if_neg hk]
theorem elsT_eq (t : TV) : elsT t = if t.kind = 8 ∧ t.items.length = 2 then (elsT (t.items.getD 1 tZ)).map (t.items.getD 0 tZ :: ·) else if t.kind = 7 then some [] else none := by
  unfold elsT
  obtain ⟨n, hn⟩ : ∃ n, t.parts = n + 1 := ⟨t.parts - 1, by have := t.parts_pos; omega⟩
  rw [hn, show elsF (n + 1) t = if t.kind = 8 ∧ t.items.length = 2 then (elsF n (t.items.getD 1 tZ)).map (t.items.getD 0 tZ :: ·) else if t.kind = 7 then some [] else none from rfl]
  by_cases hk : t.kind = 8 ∧ t.items.length = 2
  · have := tail_parts hk.2
    rw [if_pos hk, if_pos hk, elsF_more n (t.items.getD 1 tZ).parts _ (by omega) (Nat.le_refl _)]
  · rw [if_neg hk, if_neg hk]
theorem elsT_len : ∀ (n : Nat) (t : TV) (l : List TV), t.parts ≤ n → elsT t = some l → l.length < t.parts ∧ TV.partsL l ≤ t.parts
  | 0, t, _, h, _ => by have := t.parts_pos; omega
  | n + 1, t, l, h, e => by
    rw [elsT_eq] at e
    by_cases hk : t.kind = 8 ∧ t.items.length = 2
    · rw [if_pos hk] at e
      have ht := tail_parts hk.2
      cases e2 : elsT (t.items.getD 1 tZ) with
      | none => rw [e2] at e; cases e
      | some m =>
        rw [e2] at e
        obtain rfl : t.items.getD 0 tZ :: m = l := Option.some.inj e
        have ih := elsT_len n _ m (by omega) e2
        have hp : t.parts = (t.items.getD 0 tZ).parts + (t.items.getD 1 tZ).parts + 1 := by
          have hl := hk.2
          rw [t.parts_eq]
          generalize t.items = it at *
          match it, hl with
          | [a, b], _ => simp [TV.partsL]
        simp only [List.length_cons, TV.partsL]
        omega
    · rw [if_neg hk] at e
      by_cases h7 : t.kind = 7
      · rw [if_pos h7] at e
        obtain rfl : [] = l := Option.some.inj e
        have := t.parts_pos
        simp [TV.partsL]
        omega
      · rw [if_neg h7] at e; cases e

section
variable {W V V' : World} {u u1 u2 : Value} {t t1 t2 : TV}
theorem own_base' {V : World} {B B' e z : Nat} {v : Value} {n : Nat} {xs : List Value} (h : V.ownsRow B' e z v n xs) (hB : B ≤ B') : V.ownsRow B e z v n xs := by
  refine ⟨h.1, ?_⟩
  rcases h.2 with h9 | ⟨g, cap, cur, hv, hb, r⟩
  · exact .inl h9
  · exact .inr ⟨g, cap, cur, hv, Nat.le_trans hB hb, r⟩
/-- Old blocks only, without X. -/
def X2 (X : Nat → Prop) (W : World) : Nat → Prop := fun k => X k ∨ W.heap.size ≤ k
theorem kept_x2 {X : Nat → Prop} (h : Below W.heap.size W V) (h' : Below W.heap.size W V') : Kept (ers (X2 X W) V) (ers (X2 X W) V') := kept_of fun p v hp => by
  obtain ⟨h1, h2⟩ := (ers_cell _ _ _).1 hp
  have hlt : p.block < W.heap.size := Nat.lt_of_not_le fun h9 => h1 (.inr h9)
  exact (ers_cell _ _ _).2 ⟨h1, by rw [h'.cell hlt, ← h.cell hlt]; exact h2⟩
theorem kept_x2_of {X : Nat → Prop} (h : Below W.heap.size W V) : Kept (ers X W) (ers (X2 X W) V) := kept_of fun p v hp => by
  obtain ⟨h1, h2⟩ := (ers_cell _ _ _).1 hp
  have hlt := World.block_lt_of_cell? W p h2
  exact (ers_cell _ _ _).2 ⟨fun h9 => by rcases h9 with h9 | h9; exact h1 h9; omega, by rw [h.cell hlt]; exact h2⟩
/-- What Elements leaves. -/
def EL (X : Nat → Prop) (W : World) (r : Option (List TV)) (e : Ending) (w' : World) : Prop := Below W.heap.size W w' ∧
    match r with
    | none => e = .returned (.tuple #[.slice none 0 0, .bool false])
    | some l => ∃ v cs, e = .returned (.tuple #[v, .bool true]) ∧ w'.ownsRow W.heap.size 26 4 v l.length cs ∧ Std (ers (X2 X W) w') cs l
theorem el_none {X : Nat → Prop} (h : Below W.heap.size W V) : EL X W none (.returned (.tuple #[.slice none 0 0, .bool false])) V := ⟨h, rfl⟩
theorem el_some {X : Nat → Prop} {v : Value} {cs : List Value} {l : List TV} (h : Below W.heap.size W V) (ho : V.ownsRow W.heap.size 26 4 v l.length cs) (hs : Std (ers (X2 X W) V) cs l) : EL X W (some l) (.returned (.tuple #[v, .bool true])) V := ⟨h, v, cs, rfl, ho, hs⟩
/-- What the loop keeps. -/
structure EI (X : Nat → Prop) (W V : World) (v : Value) (t1 tc : TV) (A : Option Addr) (n c : Nat) (acc : List TV) (cs : List Value) : Prop where
  bel : Below W.heap.size W V
  own : V.ownsRow (W.heap.size + 1) 26 4 v acc.length cs
  std : Std (ers (X2 X W) V) cs acc
  box : Blk V W.heap.size 26 #[.int .i64 tc.kind, .int .i64 tc.int, .string ⟨tc.name.toArray⟩, .slice A n c]
  cur : TEx X W (.agg #[.int .i64 tc.kind, .int .i64 tc.int, .string ⟨tc.name.toArray⟩, .slice A n c]) tc
  els : elsT t1 = (elsT tc).map (acc ++ ·)
  cnt : acc.length + tc.parts ≤ t1.parts
theorem own_fr' {F : Nat → Prop} {base e size n : Nat} {v : Value} {xs : List Value} (h : V.ownsRow base e size v n xs) (hf : Fr F V V') (hF : ∀ k, v.ownBlock = some k → ¬ F k) : V'.ownsRow base e size v n xs := by
  refine ⟨h.1, ?_⟩
  rcases h.2 with hn | ⟨g, cap, cur, hv, hb, hh, r⟩
  · exact .inl hn
  · refine .inr ⟨g, cap, cur, hv, hb, ?_, r⟩
    have hlt : g < V.heap.size := (Array.getElem?_eq_some_iff.1 hh).1
    rw [← hh]
    exact hf.block g hlt (hF g (by rw [hv]; rfl))
theorem cs_blk {g ty : Nat} {cs : List Value} (h : Blk V g ty cs.toArray) : Cs V (some ⟨g, 0, none⟩) cs := .inr ⟨_, rfl, fun j u hj => by rw [Addr.add_lit, Nat.zero_add, h.cell]; simpa using hj⟩
def sLen : Value → Nat
  | .slice _ n _ => n
  | _ => 0
theorem EI.keep {X : Nat → Prop} {v : Value} {tc : TV} {A : Option Addr} {n c : Nat} {acc : List TV} {cs : List Value} (h : EI X W V v t1 tc A n c acc cs) (hb : Below V.heap.size V V') : EI X W V' v t1 tc A n c acc cs :=
  ⟨below_step h.bel hb, h.own.kept (grown_of_below hb none) (by cases v.ownBlock <;> simp), h.std.kept (kept_x2 h.bel (below_step h.bel hb)), h.box.keep hb, h.cur, h.els, h.cnt⟩
theorem own_slice {base e z n : Nat} {v : Value} {cs : List Value} (h : V.ownsRow base e z v n cs) : ∃ A c, v = .slice A n c ∧ n ≤ c ∧ c ≤ 9223372036854775807 := by
  rcases h.2 with ⟨rfl, hz⟩ | ⟨g, cap, cur, rfl, hb, hg, hnc, hcm, _⟩
  · rw [hz]; exact ⟨none, 0, rfl, Nat.le_refl _, by omega⟩
  · exact ⟨_, cap, rfl, hnc, by unfold maxLen at hcm; exact hcm⟩
set_option maxRecDepth 100000 in
set_option maxHeartbeats 4000000 in
theorem elements_v {X : Nat → Prop} (hX : ∀ k, X k → k < W.heap.size) (h1 : TEx X W u1 t1) (hp : t1.parts ≤ 1000000) : Calls Tryz.prog 72 #[u1] W (EL X W (elsT t1)) := by
  obtain ⟨A1, n1, c1, rfl, hn1⟩ := h1.form
  have H1 := Lib.hid h1
  have HX := Lib.hid hX
  have HP := Lib.hid hp
  clear hX hp h1 hn1
  go_enter Tryz.func72, Tryz.ntmps72
  go_upto_region 1 with (fail)
  go_loopw [2] (fun v wr => ∃ tc A n c acc cs, Hid (EI X W wr v t1 tc A n c acc cs) ∧ Hid (tc.items.length = n)) (fun v wr => t1.parts - sLen v)
  case atStart => exact ⟨t1, A1, n1, c1, [], [], ⟨below_alloc _ _, World.ownsRow_nil _ _ _ _, std_nil _, Blk.new _ _ _, H1.out, by cases elsT t1 <;> simp, by simp⟩, by exact (by obtain ⟨_, _, _, h, h2⟩ := H1.out.form; simpa using (by injection h with h; simp at h; exact h2.trans h.2.1.symm))⟩
  case round =>
    obtain ⟨tc, A, n, c, acc, cs, HE, HN⟩ := hrel
    have q0 := HE.out.box.cell 0
    have q3 := HE.out.box.cell 3
    by_cases hk : tc.kind = 8
    · by_cases hl : n = 2
      · subst hl
        have hlen : tc.items.length = 2 := HN.out
        obtain ⟨ib, io, IA, im, ic, hA, e0, e1, e2, e3, hin, hIT⟩ := HE.out.cur.items.item (j := 0) (by omega)
        obtain ⟨ib', io', JA, jm, jc, hA', g0, g1, g2, g3, hjn, hJT⟩ := HE.out.cur.items.item (j := 1) (by omega)
        subst hA
        obtain ⟨rfl, rfl⟩ : ib = ib' ∧ io = io' := by simpa using hA'
        have hels : elsT t1 = (elsT tc.items[1]).map ((acc ++ [tc.items[0]]) ++ ·) := by
          rw [HE.out.els, elsT_eq, if_pos ⟨hk, hlen⟩, show tc.items.getD 1 tZ = tc.items[1] by simp [List.getD, hlen], show tc.items.getD 0 tZ = tc.items[0] by simp [List.getD, hlen]]
          cases elsT tc.items[1] <;> simp
        have hcnt : (acc ++ [tc.items[0]]).length + tc.items[1].parts ≤ t1.parts := by
          have h1 := HE.out.cnt
          have h2 := tail_parts hlen
          rw [show tc.items.getD 1 tZ = tc.items[1] by simp [List.getD, hlen]] at h2
          simp; omega
        have hal : acc.length + 1 ≤ t1.parts := by have h1 := HE.out.cnt; have := tc.parts_pos; omega
        generalize hd0 : tc.items[0] = a at *
        generalize hd1 : tc.items[1] = d at *
        have HELS := Lib.hid hels
        have HCNT := Lib.hid hcnt
        have HAL := Lib.hid hal
        have HIT := Lib.hid hIT
        have HJT := Lib.hid hJT
        have HIN := Lib.hid hin
        have HJN := Lib.hid hjn
        have hlt : ib < W.heap.size := World.block_lt_of_cell? W _ e0
        have E0 := Lib.hid g0
        have E1 := Lib.hid g1
        have E2 := Lib.hid g2
        have E3 := Lib.hid g3
        have i0 : wr.cell? ⟨ib, io, none⟩ = some (.int .i64 a.kind) := (HE.out.bel.cell hlt).trans (by simpa using e0)
        have i1 : wr.cell? ⟨ib, io + 1, none⟩ = some (.int .i64 a.int) := (HE.out.bel.cell hlt).trans (by simpa using e1)
        have i2 : wr.cell? ⟨ib, io + 2, none⟩ = some (.string ⟨a.name.toArray⟩) := (HE.out.bel.cell hlt).trans (by simpa using e2)
        have i3 : wr.cell? ⟨ib, io + 3, none⟩ = some (.slice IA im ic) := (HE.out.bel.cell hlt).trans (by simpa using e3)
        have HLT := Lib.hid hlt
        have HE0 := Lib.hid (HE.out.keep (below_alloc wr (.cells #[.int .i64 a.kind, .int .i64 a.int, .string ⟨a.name.toArray⟩, .slice IA im ic] 26)))
        have HBN := Lib.hid (Blk.new wr 26 #[.int .i64 a.kind, .int .i64 a.int, .string ⟨a.name.toArray⟩, .slice IA im ic])
        have HSO : Hid (Std (ers (X2 X W) wr) [.int .i64 a.kind, .int .i64 a.int, .string ⟨a.name.toArray⟩, .slice IA im ic] [a]) := std_one (TVal.kept HIT.out (kept_x2_of HE.out.bel))
        clear e0 e1 e2 e3 g0 g1 g2 g3 hIT hJT hin hjn hels hcnt hal hA' hd0 hd1 hlen hlt
        obtain ⟨Av, cv, rfl, hlc, hcm⟩ := own_slice HE.out.own
        go_wp2_with (at_builtin; refine wpList_app termT rfl (.tmp 17) (.tmp 22) rfl (W.heap.size + 1) _ acc.length cs rfl HE0.out.own (some ⟨wr.heap.size, 0, none⟩) 1 1 [.int .i64 a.kind, .int .i64 a.int, .string ⟨a.name.toArray⟩, .slice IA im ic] rfl rfl (cs_blk HBN.out) HSO.out.2.1 (by have := HP.out; have := HAL.out; unfold maxLen; omega) (by have := HP.out; have := HAL.out; omega) (by have := HE.out.box.lt; simp; omega) ?_; intro v' w3 ho3 hg3 hat3; have HB3 := Lib.hid (HE0.out.bel.grown hg3 HE0.out.bel.size (fun k hk => by have := (HE0.out.own.lt k hk).1; omega)); have HBX := Lib.hid (HE0.out.box.grown hg3 (fun e => by have := (HE0.out.own.lt _ e.symm).1; omega)); have q3 := HBX.out.cell 3; have q0 := HBX.out.cell 0; have q1 := HBX.out.cell 1; have q2 := HBX.out.cell 2; have f0 := HBX.out.frozen 0; have f1 := HBX.out.frozen 1; have f2 := HBX.out.frozen 2; have f3 := HBX.out.frozen 3; have j0 : w3.cell? ⟨ib, io + 4, none⟩ = some (.int .i64 d.kind) := (HB3.out.cell HLT.out).trans (by simpa using E0.out); have j1 : w3.cell? ⟨ib, io + 4 + 1, none⟩ = some (.int .i64 d.int) := (HB3.out.cell HLT.out).trans (by simpa using E1.out); have j2 : w3.cell? ⟨ib, io + 4 + 2, none⟩ = some (.string ⟨d.name.toArray⟩) := (HB3.out.cell HLT.out).trans (by simpa using E2.out); have j3 : w3.cell? ⟨ib, io + 4 + 3, none⟩ = some (.slice JA jm jc) := (HB3.out.cell HLT.out).trans (by simpa using E3.out); have HO3 := Lib.hid ho3; clear ho3 hg3 hat3)
        go_roundw
        case rel =>
          have hset := HBX.out.set4 (.int .i64 d.kind) (.int .i64 d.int) (.string ⟨d.name.toArray⟩) (.slice JA jm jc)
          have hfr := fr_set4 w3 W.heap.size (.int .i64 d.kind) (.int .i64 d.int) (.string ⟨d.name.toArray⟩) (.slice JA jm jc)
          have hbf := HB3.out.trans (hfr.below HB3.out.size (fun k hk => by rw [hk]; exact Nat.le_refl _))
          refine ⟨d, JA, jm, jc, acc ++ [a], cs ++ [.int .i64 a.kind, .int .i64 a.int, .string ⟨a.name.toArray⟩, .slice IA im ic], ⟨hbf, ?_, ?_, hset, HJT.out, HELS.out, HCNT.out⟩, HJN.out⟩
          · rw [List.length_append]
            exact own_fr' HO3.out hfr (fun k hk e => by have := (HO3.out.lt k hk).1; omega)
          · exact Std.append (HE.out.std.kept (kept_x2 HE.out.bel hbf)) (HSO.out.kept (kept_x2 HE.out.bel hbf))
        case measure =>
          obtain ⟨Aw, cw, rfl, _, _⟩ := own_slice HO3.out
          have := HAL.out
          simp [sLen]
          omega
      · have hr : elsT t1 = none := by rw [HE.out.els, elsT_eq, if_neg (fun h => hl (HN.out.symm.trans h.2)), if_neg (by omega)]; simp
        have HR := Lib.hid hr
        clear hr
        obtain ⟨Av, cv, rfl, hlc, hcm⟩ := own_slice HE.out.own
        go_wp2_with (fail)
        exact bodyPost_ret (v := .tuple #[.slice none 0 0, .bool false]) (by simp [results, Tryz.results72, go_sem]) rfl (by rw [HR.out]; exact el_none HE.out.bel)
    · by_cases h7 : tc.kind = 7
      · have hr : elsT t1 = some acc := by rw [HE.out.els, elsT_eq, if_neg (fun h => hk h.1), if_pos h7]; simp
        have HR := Lib.hid hr
        have HK8 := Lib.hid hk
        clear hk hr
        obtain ⟨Av, cv, rfl, hlc, hcm⟩ := own_slice HE.out.own
        go_wp2_with (fail)
        exact bodyPost_ret (v := .tuple #[.slice Av acc.length cv, .bool true]) (by simp [results, Tryz.results72, go_sem]) rfl (by rw [HR.out]; exact el_some HE.out.bel (own_base' HE.out.own (Nat.le_succ _)) HE.out.std)
      · have hr : elsT t1 = none := by rw [HE.out.els, elsT_eq, if_neg (fun h => hk h.1), if_neg h7]; simp
        have HR := Lib.hid hr
        clear hr
        obtain ⟨Av, cv, rfl, hlc, hcm⟩ := own_slice HE.out.own
        go_wp2_with (fail)
        exact bodyPost_ret (v := .tuple #[.slice none 0 0, .bool false]) (by simp [results, Tryz.results72, go_sem]) rfl (by rw [HR.out]; exact el_none HE.out.bel)
end
end Go.Proofs.YtbpnlpjbjmojfaaGreat
