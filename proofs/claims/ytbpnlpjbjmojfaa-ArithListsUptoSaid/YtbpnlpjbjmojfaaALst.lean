/- Arith (layer 14): ArithLists, for lists of at most 2000000 terms. Written by argenlst.py. -/
import Derived.Test.YtbpnlpjbjmojfaaArZ
import Derived.Test.YtbpnlpjbjmojfaaOpenT
import Derived.Deep.RegionHeld3
namespace Go.Proofs.Ytbpnlpjbjmojfaa
open Go.RowKit
set_option linter.unusedVariables false

theorem wpList_appG {P : Program} {w : World} {ops : Array Oper} {rest : List Oper} {o : Oper} {a : Act} {Q : Exit → Act → World → Prop} {t e : TypeId} {z : Value} {size bytes : Nat} (T : ElT P t e z size bytes) (hgd : Region.wanted o (yielded ops a.tmps) = true) (s x : Operand)
    (ho : o.op = .call { callee := .builtin .append, args := #[s, x], argTypes := #[t, t] }) (base : Nat)
    (v : Value) (n : Nat) (xs : List Value) (hs : a.eval s = v) (hown : w.ownsRow base e size v n xs) (A : Option Addr) (m c : Nat) (news : List Value) (hx : a.eval x = .slice A m c) (hl : news.length = m * size) (hnews : Cs w A news)
    (h1 : ∀ u ∈ news, u.oneCell' = true) (h63 : n + m ≤ maxLen) (hbytes : (n + m) * bytes ≤ 140737488355328) (hbase : base ≤ w.heap.size)
    (h : ∀ v' w', w'.ownsRow base e size v' (n + m) (xs ++ news) → w.grownBy w' v.ownBlock → (v'.ownBlock = v.ownBlock ∨ v'.ownBlock = some w.heap.size) → wpList P ops Q rest (a.put o.dst v') w') :
    wpList P ops Q (o :: rest) a w := by
  refine wpList_step fun K hK => ?_
  rw [if_pos hgd]
  obtain ⟨v', w', hr, h2, h3, h4⟩ := run_append_cs (P := P) w T o.type base v n xs hown A m c news hl hnews h1 h63 hbytes hbase
  unfold Oper.wp execOp
  simp only [ho, resolve, invoke, builtin, Sem.run_bind, Sem.run_pure, Result.andThen_ok, List.map_toArray, List.map_cons, List.map_nil, hs, hx, hr]
  exact hK _ _ (h v' w' h2 h3 h4)
section
variable {w W V V' : World} {u u1 u2 : Value} {t t1 t2 : TV}
theorem own_below2 {B e z n : Nat} {v : Value} {cs : List Value} {w1 w2 : World} (hb : Below W.heap.size W w1) (hB : W.heap.size ≤ B) (ho : w1.ownsRow B e z v n cs) (hg : w1.grownBy w2 v.ownBlock) : Below W.heap.size W w2 :=
  hb.grown hg hb.size (fun k hk => by have := (ho.lt k hk).1; omega)
theorem lit_below {w1 w2 : World} {ob : Obj} {cap : Nat} (hb : Below W.heap.size W (w1.alloc ob)) (hg : (w1.alloc ob).grownBy w2 (Value.slice (some ⟨w1.heap.size, 0, none⟩) 0 cap).ownBlock) (hW : W.heap.size ≤ w1.heap.size := by first | exact Nat.le_refl _ | assumption) : Below W.heap.size W w2 :=
  hb.grown hg hb.size (fun k hk => by have := Option.some.inj hk; simp only at this; omega)
theorem lval_own {B n : Nat} {v : Value} {cs : List Value} {l : List TV} (ho : V.ownsRow B 24 4 v n cs) (hs : Std V cs l) : LVal V v l :=
  (lex_own (X := fun _ => False) ho (fun _ h => h.elim) (hs.kept (kept_all V))).1.val
theorem cs_below {A : Option Addr} {cs : List Value} (h : Cs W A cs) (hb : Below W.heap.size W V) : Cs V A cs := by
  rcases h with h0 | ⟨b, e, hcell⟩
  · exact .inl h0
  · exact .inr ⟨b, e, fun j w hj => (hb.cell (World.block_lt_of_cell? W _ (hcell j w hj))).trans (hcell j w hj)⟩

set_option maxRecDepth 100000 in
set_option maxHeartbeats 8000000 in
theorem lists_in (l m : List TV) (A1 A2 : Option Addr) (n1 n2 c1 c2 : Nat) (w : World) (hl : l.length = n1) (hm : m.length = n2) (h1 : RdM w A1 c1 l) (h2 : RdM w A2 c2 m) (hnm1 : TV.namedL l) (hnm2 : TV.namedL m) (hn1 : n1 ≤ 2000000) (hn2 : n2 ≤ 2000000) : Calls Try.prog 4 #[.slice A1 n1 c1, .slice A2 n2 c2] w (Yes w) := by
  obtain ⟨cs1, hs1, hc1⟩ := rdM_std h1
  obtain ⟨cs2, hs2, hc2⟩ := rdM_std h2
  have HLcs1 := Lib.hid (show cs1.length = n1 * 4 by rw [hs1.1, hl])
  have HLcs2 := Lib.hid (show cs2.length = n2 * 4 by rw [hs2.1, hm])
  have HCcs1 := Lib.hid hc1
  have HCcs2 := Lib.hid hc2
  have HOcs1 := Lib.hid hs1.2.1
  have HOcs2 := Lib.hid hs2.2.1
  have HS1 := Lib.hid hs1
  have HS2 := Lib.hid hs2
  have HR1 := Lib.hid h1
  have HR2 := Lib.hid h2
  have HN1 := Lib.hid hl
  have HN2 := Lib.hid hm
  have hnm : TV.namedL (l ++ m) := namedL_of fun k h => by
    by_cases hk : k < l.length
    · rw [List.getElem_append_left hk]; exact namedL_at hnm1 hk
    · rw [List.getElem_append_right (by omega)]; exact namedL_at hnm2 _
  have HSM : Hid (∀ V A c, LVal V (.slice A (n1 + n2) c) (l ++ m) → Calls Try.prog 7 #[.slice A (n1 + n2) c, .slice none 0 0] V fun e w' => e = .returned (.bool (smB (l ++ m))) ∧ Below V.heap.size V w') := fun V A c h => by
    obtain ⟨A', n', c', e, hn, hR⟩ := h
    obtain ⟨rfl, rfl, rfl⟩ := Value.slice.inj e
    exact small_v (l ++ m) A _ c V hn hnm hR
  have HFT : Hid (∀ V A c, LVal V (.slice A (n1 + n2) c) (l ++ m) → Calls Try.prog 13 #[.slice A (n1 + n2) c, .int .i64 1000] V fun e w' => e = .returned (.bool (decide ((TV.partsL (l ++ m) : Int) ≤ 1000))) ∧ Below V.heap.size V w') := fun V A c h => by
    obtain ⟨A', n', c', e, hn, hR⟩ := h
    obtain ⟨rfl, rfl, rfl⟩ := Value.slice.inj e
    exact fits_any (l ++ m) A _ c 1000 V V hn (by omega) (by omega) (Below.refl _ _) hR
  clear hs1 hs2 hc1 hc2 h1 h2 hnm hnm1 hnm2 hl hm
  have hbw := below_alloc w (.cells #[] 24)
  by_cases hsm : smB (l ++ m) = true
  rotate_left
  · rw [Bool.not_eq_true] at hsm
    rw [hsm] at HSM
    clear hsm HFT
    go_enter Try.func4, Try.ntmps4
    go_wp2_with (first
      | (at_builtin; (refine wpList_appG termT (by first | rfl | simp [Region.wanted, yielded]) (.tmp 25) (.tmp 26) rfl w.heap.size _ 0 [] rfl (World.ownsRow_lit w #[] 0 (Nat.le_refl _) (Nat.zero_le _) rfl) A1 n1 c1 cs1 rfl HLcs1.out (cs_below HCcs1.out hbw) HOcs1.out (by unfold maxLen; omega) (by omega) (by simp) ?_); intro v3 w3 ho3 hg3 hat3; have HB3 := Lib.hid (lit_below hbw hg3 (Nat.le_refl _)); clear hg3 hat3; rw [List.nil_append, Nat.zero_add] at ho3; have HO3 := Lib.hid ho3; have SZZ3 : Hid (w.heap.size ≤ w3.heap.size) := HB3.out.size; clear ho3)
      | (at_builtin; (refine wpList_appG termT (by first | rfl | simp [Region.wanted, yielded]) (.tmp 27) (.tmp 28) rfl w.heap.size _ n1 cs1 rfl HO3.out A2 n2 c2 cs2 rfl HLcs2.out (cs_below HCcs2.out HB3.out) HOcs2.out (by unfold maxLen; omega) (by omega) SZZ3.out ?_); intro v4 w4 ho4 hg4 hat4; have HB4 := Lib.hid (own_below2 HB3.out (Nat.le_refl _) HO3.out hg4); clear hg4 hat4; have HLV4 := Lib.hid (lval_own ho4 ((HS1.out.append HS2.out).kept (Kept.of_below HB4.out))); obtain ⟨A4, c4, rfl, _, _⟩ := own_slice ho4; clear ho4)
      | (go_at_call 7; refine (HSM.out _ _ _ HLV4.out).mono ?_; rintro e w5 ⟨rfl, hb5⟩)
      | (go_at_call 8; refine (live_from (below_step HB4.out hb5)).mono ?_; rintro e w9 ⟨rfl, hb9⟩))
    go_ret
    exact ⟨rfl, hb9⟩
  have hlen : n1 + n2 ≤ 100 := by have h := (smB_yes hsm).1; rw [List.length_append, HN1.out, HN2.out] at h; exact h
  have hd1 : decide ((100 : Int) < (n2 : Int)) = false := by simp; omega
  rw [hsm] at HSM
  clear hsm
  by_cases hft : (TV.partsL (l ++ m) : Int) ≤ 1000
  rotate_left
  · rw [decide_eq_false hft] at HFT
    clear hft
    go_enter Try.func4, Try.ntmps4
    go_wp2_with (first
      | (at_builtin; (refine wpList_appG termT (by first | rfl | simp [Region.wanted, yielded]) (.tmp 25) (.tmp 26) rfl w.heap.size _ 0 [] rfl (World.ownsRow_lit w #[] 0 (Nat.le_refl _) (Nat.zero_le _) rfl) A1 n1 c1 cs1 rfl HLcs1.out (cs_below HCcs1.out hbw) HOcs1.out (by unfold maxLen; omega) (by omega) (by simp) ?_); intro v3 w3 ho3 hg3 hat3; have HB3 := Lib.hid (lit_below hbw hg3 (Nat.le_refl _)); clear hg3 hat3; rw [List.nil_append, Nat.zero_add] at ho3; have HO3 := Lib.hid ho3; have SZZ3 : Hid (w.heap.size ≤ w3.heap.size) := HB3.out.size; clear ho3)
      | (at_builtin; (refine wpList_appG termT (by first | rfl | simp [Region.wanted, yielded]) (.tmp 27) (.tmp 28) rfl w.heap.size _ n1 cs1 rfl HO3.out A2 n2 c2 cs2 rfl HLcs2.out (cs_below HCcs2.out HB3.out) HOcs2.out (by unfold maxLen; omega) (by omega) SZZ3.out ?_); intro v4 w4 ho4 hg4 hat4; have HB4 := Lib.hid (own_below2 HB3.out (Nat.le_refl _) HO3.out hg4); clear hg4 hat4; have HLV4 := Lib.hid (lval_own ho4 ((HS1.out.append HS2.out).kept (Kept.of_below HB4.out))); obtain ⟨A4, c4, rfl, _, _⟩ := own_slice ho4; clear ho4)
      | (go_at_call 7; refine (HSM.out _ _ _ HLV4.out).mono ?_; rintro e w5 ⟨rfl, hb5⟩; have HB5 := Lib.hid (below_step HB4.out hb5); have HBL5 := Lib.hid (below_step HB5.out (below_alloc w5 (.cells #[] 24))); clear hb5)
      | (at_builtin; (refine wpList_appG termT (by first | rfl | simp [Region.wanted, yielded]) (.tmp 38) (.tmp 39) rfl w5.heap.size _ 0 [] rfl (World.ownsRow_lit w5 #[] 0 (Nat.le_refl _) (Nat.zero_le _) rfl) A1 n1 c1 cs1 rfl HLcs1.out (cs_below HCcs1.out HBL5.out) HOcs1.out (by unfold maxLen; omega) (by omega) (by simp) ?_); intro v6 w6 ho6 hg6 hat6; have HB6 := Lib.hid (lit_below HBL5.out hg6 (HB5.out.size)); have SZ6 : w5.heap.size ≤ w6.heap.size := Nat.le_trans (by simp) hg6.size; clear hg6 hat6; rw [List.nil_append, Nat.zero_add] at ho6; have HO6 := Lib.hid ho6; have SZZ6 : Hid (w5.heap.size ≤ w6.heap.size) := SZ6; clear ho6)
      | (at_builtin; (refine wpList_appG termT (by first | rfl | simp [Region.wanted, yielded]) (.tmp 40) (.tmp 41) rfl w5.heap.size _ n1 cs1 rfl HO6.out A2 n2 c2 cs2 rfl HLcs2.out (cs_below HCcs2.out HB6.out) HOcs2.out (by unfold maxLen; omega) (by omega) SZZ6.out ?_); intro v7 w7 ho7 hg7 hat7; have HB7 := Lib.hid (own_below2 HB6.out (HB5.out.size) HO6.out hg7); clear hg7 hat7; have HLV7 := Lib.hid (lval_own ho7 ((HS1.out.append HS2.out).kept (Kept.of_below HB7.out))); obtain ⟨A7, c7, rfl, _, _⟩ := own_slice ho7; clear ho7)
      | (go_at_call 13; refine (HFT.out _ _ _ HLV7.out).mono ?_; rintro e w8 ⟨rfl, hb8⟩)
      | (go_at_call 8; refine (live_from (below_step HB7.out hb8)).mono ?_; rintro e w9 ⟨rfl, hb9⟩))
    go_ret
    exact ⟨rfl, hb9⟩
  rw [decide_eq_true hft] at HFT
  have hpl : TV.partsL (l ++ m) ≤ 1000 := by omega
  have hpl1 : TV.partsL l ≤ 1000 := by rw [partsL_append] at hpl; omega
  have hpl2 : TV.partsL m ≤ 1000 := by rw [partsL_append] at hpl; omega
  have HL1 := Lib.hid (show l.length ≤ 1000000 by rw [HN1.out]; omega)
  have HL2 := Lib.hid (show m.length ≤ 1000000 by rw [HN2.out]; omega)
  have hfit : ∀ x : List TV, TV.partsL x ≤ 1000 → fitP (lstT x) = (lstT x, []) := fun x hx => fitP_yes (by rw [lstT_parts]; have := len_parts x; omega)
  have hdt : doP [108, 105, 115, 116, 95, 116, 111, 95, 116, 117, 112, 108, 101] [lstT l] = (tT l, []) := by
    show (elsT (lstT l)).elim (tZ, sArg) (fun l => (tT l, [])) = _
    rw [elsT_lst]
    rfl
  have hdc : doP [116, 117, 112, 108, 101, 95, 116, 111, 95, 108, 105, 115, 116] [tT l] = (lstT l, []) := hfit l hpl1
  have hrv : ∀ x : List TV, doP [114, 101, 118, 101, 114, 115, 101] [lstT x] = (lstT x.reverse, []) := fun x => by
    show (elsT (lstT x)).elim (tZ, sArg) (fun l => (lstT l.reverse, [])) = _
    rw [elsT_lst]
    rfl
  have happ : ∀ x y : List TV, TV.partsL (x ++ y) ≤ 1000 → doP [97, 112, 112, 101, 110, 100] [lstT x, lstT y] = (lstT (x ++ y), []) := fun x y h => by
    show (elsT (lstT x)).elim (tZ, sArg) (fun l => fitP (lstE l (lstT y))) = _
    rw [elsT_lst]
    show fitP (lstE x (lstT y)) = _
    rw [lstE_app]
    exact hfit _ h
  have hdn : doP [108, 101, 110, 103, 116, 104] [lstT (l ++ m)] = (tI ((n1 : Int) + (n2 : Int)), []) := by
    show (elsT (lstT (l ++ m))).elim (tZ, sArg) (fun l => (tI (l.length : Nat), [])) = _
    rw [elsT_lst]
    show (tI ((l ++ m).length : Nat), ([] : List UInt8)) = _
    rw [List.length_append, HN1.out, HN2.out]
    rfl
  have hrr : TV.partsL (m.reverse ++ l.reverse) ≤ 1000 := by rw [← List.reverse_append, partsL_rev]; exact hpl
  have HGta := Lib.hid (good_lst (l := l) (by omega))
  have HGtb := Lib.hid (good_lst (l := m) (by omega))
  have HGtt := Lib.hid (good_tup (l := l) (by omega))
  have HGtd := Lib.hid (good_lst (l := l.reverse) (by rw [partsL_rev]; omega))
  have HGtj := Lib.hid (good_lst (l := l ++ m) (by omega))
  have HGts := Lib.hid (good_lst (l := m.reverse) (by rw [partsL_rev]; omega))
  have hdd := hrv l
  have hdh := hrv l.reverse
  have hdj := happ l m hpl
  have hdr := hrv (l ++ m)
  have hds := hrv m
  have hdu := happ m.reverse l.reverse hrr
  rw [List.reverse_reverse] at hdh
  rw [List.reverse_append] at hdr
  have HLA : Hid (∀ V c, LVal V (.slice A1 n1 c) l → Calls Try.prog 14 #[.slice A1 n1 c] V fun e w' => ∃ A9 n9 c9, e = .returned (.agg #[.int .i64 (lstT l).kind, .int .i64 (lstT l).int, .string ⟨(lstT l).name.toArray⟩, .slice A9 n9 c9]) ∧ TVal w' (.agg #[.int .i64 (lstT l).kind, .int .i64 (lstT l).int, .string ⟨(lstT l).name.toArray⟩, .slice A9 n9 c9]) (lstT l) ∧ Below V.heap.size V w') := fun V c h => tlist_v h HL1.out
  have HLB : Hid (∀ V c, LVal V (.slice A2 n2 c) m → Calls Try.prog 14 #[.slice A2 n2 c] V fun e w' => ∃ A9 n9 c9, e = .returned (.agg #[.int .i64 (lstT m).kind, .int .i64 (lstT m).int, .string ⟨(lstT m).name.toArray⟩, .slice A9 n9 c9]) ∧ TVal w' (.agg #[.int .i64 (lstT m).kind, .int .i64 (lstT m).int, .string ⟨(lstT m).name.toArray⟩, .slice A9 n9 c9]) (lstT m) ∧ Below V.heap.size V w') := fun V c h => tlist_v h HL2.out
  have HVA : Hid (∀ V, Below w.heap.size w V → LVal V (.slice A1 n1 c1) l) := fun V h => ⟨A1, n1, c1, rfl, HN1.out, HR1.out.below h⟩
  have HVB : Hid (∀ V, Below w.heap.size w V → LVal V (.slice A2 n2 c2) m) := fun V h => ⟨A2, n2, c2, rfl, HN2.out, HR2.out.below h⟩
  obtain ⟨ta, hta⟩ : ∃ z, lstT l = z := ⟨_, rfl⟩
  obtain ⟨tb, htb⟩ : ∃ z, lstT m = z := ⟨_, rfl⟩
  obtain ⟨tt, htt⟩ : ∃ z, tT l = z := ⟨_, rfl⟩
  obtain ⟨td, htd⟩ : ∃ z, lstT l.reverse = z := ⟨_, rfl⟩
  obtain ⟨tj, htj⟩ : ∃ z, lstT (l ++ m) = z := ⟨_, rfl⟩
  obtain ⟨tr, htr⟩ : ∃ z, lstT (m.reverse ++ l.reverse) = z := ⟨_, rfl⟩
  obtain ⟨ts, hts⟩ : ∃ z, lstT m.reverse = z := ⟨_, rfl⟩
  obtain ⟨tn, htn⟩ : ∃ z, tI ((n1 : Int) + (n2 : Int)) = z := ⟨_, rfl⟩
  rw [hta] at hdt hdc hdd hdh hdj HGta HLA
  rw [htb] at hdj hds HGtb HLB
  rw [htt] at hdt hdc HGtt
  rw [htd] at hdd hdh hdu HGtd
  rw [htj] at hdj hdn hdr HGtj
  rw [htr] at hdr hdu
  rw [hts] at hds hdu HGts
  rw [htn] at hdn
  obtain ⟨tc, htc⟩ : ∃ z, ta = z := ⟨_, rfl⟩
  obtain ⟨th, hth⟩ : ∃ z, ta = z := ⟨_, rfl⟩
  obtain ⟨tu, htu⟩ : ∃ z, tr = z := ⟨_, rfl⟩
  have HQc := Lib.hid htc
  have HQh := Lib.hid hth
  have HQu := Lib.hid htu
  have HQn := Lib.hid htn
  rw [show (ta, ([] : List UInt8)) = (tc, []) by rw [htc]] at hdc
  rw [show (ta, ([] : List UInt8)) = (th, []) by rw [hth]] at hdh
  rw [show (tr, ([] : List UInt8)) = (tu, []) by rw [htu]] at hdu
  have HDtt := Lib.hid hdt
  have HDtc := Lib.hid hdc
  have HDtd := Lib.hid hdd
  have HDth := Lib.hid hdh
  have HDtj := Lib.hid hdj
  have HDtn := Lib.hid hdn
  have HDtr := Lib.hid hdr
  have HDts := Lib.hid hds
  have HDtu := Lib.hid hdu
  clear hdt hdc hdd hdh hdj hdn hdr hds hdu hta htb htt htd htj htr hts htn htc hth htu hrv happ hfit hrr hpl hpl1 hpl2 hft
  go_enter Try.func4, Try.ntmps4
  go_upto_region 3 with (first
    | (at_builtin; (refine wpList_appG termT (by first | rfl | simp [Region.wanted, yielded]) (.tmp 25) (.tmp 26) rfl w.heap.size _ 0 [] rfl (World.ownsRow_lit w #[] 0 (Nat.le_refl _) (Nat.zero_le _) rfl) A1 n1 c1 cs1 rfl HLcs1.out (cs_below HCcs1.out hbw) HOcs1.out (by unfold maxLen; omega) (by omega) (by simp) ?_); intro v3 w3 ho3 hg3 hat3; have HB3 := Lib.hid (lit_below hbw hg3 (Nat.le_refl _)); clear hg3 hat3; rw [List.nil_append, Nat.zero_add] at ho3; have HO3 := Lib.hid ho3; have SZZ3 : Hid (w.heap.size ≤ w3.heap.size) := HB3.out.size; clear ho3)
    | (at_builtin; (refine wpList_appG termT (by first | rfl | simp [Region.wanted, yielded]) (.tmp 27) (.tmp 28) rfl w.heap.size _ n1 cs1 rfl HO3.out A2 n2 c2 cs2 rfl HLcs2.out (cs_below HCcs2.out HB3.out) HOcs2.out (by unfold maxLen; omega) (by omega) SZZ3.out ?_); intro v4 w4 ho4 hg4 hat4; have HB4 := Lib.hid (own_below2 HB3.out (Nat.le_refl _) HO3.out hg4); clear hg4 hat4; have HLV4 := Lib.hid (lval_own ho4 ((HS1.out.append HS2.out).kept (Kept.of_below HB4.out))); obtain ⟨A4, c4, rfl, _, _⟩ := own_slice ho4; clear ho4)
    | (go_at_call 7; refine (HSM.out _ _ _ HLV4.out).mono ?_; rintro e w5 ⟨rfl, hb5⟩; have HB5 := Lib.hid (below_step HB4.out hb5); have HBL5 := Lib.hid (below_step HB5.out (below_alloc w5 (.cells #[] 24))); clear hb5)
    | (at_builtin; (refine wpList_appG termT (by first | rfl | simp [Region.wanted, yielded]) (.tmp 38) (.tmp 39) rfl w5.heap.size _ 0 [] rfl (World.ownsRow_lit w5 #[] 0 (Nat.le_refl _) (Nat.zero_le _) rfl) A1 n1 c1 cs1 rfl HLcs1.out (cs_below HCcs1.out HBL5.out) HOcs1.out (by unfold maxLen; omega) (by omega) (by simp) ?_); intro v6 w6 ho6 hg6 hat6; have HB6 := Lib.hid (lit_below HBL5.out hg6 (HB5.out.size)); have SZ6 : w5.heap.size ≤ w6.heap.size := Nat.le_trans (by simp) hg6.size; clear hg6 hat6; rw [List.nil_append, Nat.zero_add] at ho6; have HO6 := Lib.hid ho6; have SZZ6 : Hid (w5.heap.size ≤ w6.heap.size) := SZ6; clear ho6)
    | (at_builtin; (refine wpList_appG termT (by first | rfl | simp [Region.wanted, yielded]) (.tmp 40) (.tmp 41) rfl w5.heap.size _ n1 cs1 rfl HO6.out A2 n2 c2 cs2 rfl HLcs2.out (cs_below HCcs2.out HB6.out) HOcs2.out (by unfold maxLen; omega) (by omega) SZZ6.out ?_); intro v7 w7 ho7 hg7 hat7; have HB7 := Lib.hid (own_below2 HB6.out (HB5.out.size) HO6.out hg7); clear hg7 hat7; have HLV7 := Lib.hid (lval_own ho7 ((HS1.out.append HS2.out).kept (Kept.of_below HB7.out))); obtain ⟨A7, c7, rfl, _, _⟩ := own_slice ho7; clear ho7)
    | (go_at_call 13; refine (HFT.out _ _ _ HLV7.out).mono ?_; rintro e w8 ⟨rfl, hb8⟩))
  have hB8 := below_step HB7.out hb8
  clear hd1 hb8
  go_upto_region 4 with (first
    | (go_at_call 14; (with_reducible refine (HLA.out _ _ (HVA.out _ hB8)).mono ?_); rintro e wu ⟨Ata, nta, cta, rfl, hTu, hbu⟩)
    | (go_at_call 14; (with_reducible refine (HLB.out _ _ (HVB.out _ (below_step hB8 hbu))).mono ?_); rintro e wv ⟨Atb, ntb, ctb, rfl, hTv, hbv⟩))
  obtain ⟨gta, hgu⟩ : ∃ g, wv.heap.size = g := ⟨_, rfl⟩
  rw [hgu]
  have hb2 := below_step hbu hbv
  have hBv := below_step hB8 hb2
  refine wp_world (fun V => Below w.heap.size w V ∧ Blk V gta 24 #[.int .i64 ta.kind, .int .i64 ta.int, .string ⟨ta.name.toArray⟩, .slice Ata nta cta] ∧ TVal V (.agg #[.int .i64 ta.kind, .int .i64 ta.int, .string ⟨ta.name.toArray⟩, .slice Ata nta cta]) ta ∧ Blk V (gta + 1) 24 #[.int .i64 tb.kind, .int .i64 tb.int, .string ⟨tb.name.toArray⟩, .slice Atb ntb ctb] ∧ TVal V (.agg #[.int .i64 tb.kind, .int .i64 tb.int, .string ⟨tb.name.toArray⟩, .slice Atb ntb ctb]) tb) ⟨below_step (below_step hBv (below_alloc _ _)) (below_alloc _ _), by rw [← hgu]; exact (Blk.new _ _ _).alloc _, ((hTu.below hbv).below (below_alloc _ _)).below (below_alloc _ _), by rw [← hgu]; exact Blk.newAt (by simp), (hTv.below (below_alloc _ _)).below (below_alloc _ _)⟩ ?_
  rintro V1 ⟨hb, hkta, htta, hktb, httb⟩
  have HB := Lib.hid hb
  have HKta := Lib.hid hkta
  have HTta := Lib.hid htta
  have qta0 := hkta.cell 0
  have qta1 := hkta.cell 1
  have qta2 := hkta.cell 2
  have qta3 := hkta.cell 3
  have HKtb := Lib.hid hktb
  have HTtb := Lib.hid httb
  have qtb0 := hktb.cell 0
  have qtb1 := hktb.cell 1
  have qtb2 := hktb.cell 2
  have qtb3 := hktb.cell 3
  clear hb hkta htta hktb httb
  clear hbu hbv hTu hTv hgu hb2 hB8 hBv
  go_upto_region 5 with (go_at_call 9; refine (do1_at HTta.out HGta.out HDtt.out (by simp)).mono ?_; rintro e w2 ⟨u, rfl, hT2, hb2⟩; obtain ⟨Att, ntt, ctt, rfl, hn⟩ := hT2.form; clear hn)
  obtain ⟨gtt, hg⟩ : ∃ g, w2.heap.size = g := ⟨_, rfl⟩
  rw [hg]
  refine wp_world (fun V => Below w.heap.size w V ∧ Blk V gta 24 #[.int .i64 ta.kind, .int .i64 ta.int, .string ⟨ta.name.toArray⟩, .slice Ata nta cta] ∧ TVal V (.agg #[.int .i64 ta.kind, .int .i64 ta.int, .string ⟨ta.name.toArray⟩, .slice Ata nta cta]) ta ∧ Blk V (gta + 1) 24 #[.int .i64 tb.kind, .int .i64 tb.int, .string ⟨tb.name.toArray⟩, .slice Atb ntb ctb] ∧ TVal V (.agg #[.int .i64 tb.kind, .int .i64 tb.int, .string ⟨tb.name.toArray⟩, .slice Atb ntb ctb]) tb ∧ Blk V gtt 24 #[.int .i64 tt.kind, .int .i64 tt.int, .string ⟨tt.name.toArray⟩, .slice Att ntt ctt] ∧ TVal V (.agg #[.int .i64 tt.kind, .int .i64 tt.int, .string ⟨tt.name.toArray⟩, .slice Att ntt ctt]) tt) ⟨below_step (below_step HB.out hb2) (below_alloc _ _), (HKta.out.keep hb2).alloc _, (HTta.out.below hb2).below (below_alloc _ _), (HKtb.out.keep hb2).alloc _, (HTtb.out.below hb2).below (below_alloc _ _), by rw [← hg]; exact Blk.new _ _ _, hT2.below (below_alloc _ _)⟩ ?_
  clear hg hT2 hb2 HB qta0 qta1 qta2 qta3 qtb0 qtb1 qtb2 qtb3 HKta HTta HKtb HTtb
  rintro V2 ⟨hb, hkta, htta, hktb, httb, hktt, httt⟩
  have HB := Lib.hid hb
  have HKta := Lib.hid hkta
  have HTta := Lib.hid htta
  have qta0 := hkta.cell 0
  have qta1 := hkta.cell 1
  have qta2 := hkta.cell 2
  have qta3 := hkta.cell 3
  have HKtb := Lib.hid hktb
  have HTtb := Lib.hid httb
  have qtb0 := hktb.cell 0
  have qtb1 := hktb.cell 1
  have qtb2 := hktb.cell 2
  have qtb3 := hktb.cell 3
  have HKtt := Lib.hid hktt
  have HTtt := Lib.hid httt
  have qtt0 := hktt.cell 0
  have qtt1 := hktt.cell 1
  have qtt2 := hktt.cell 2
  have qtt3 := hktt.cell 3
  clear hb hkta htta hktb httb hktt httt
  go_upto_region 6 with (go_at_call 9; refine (do1_at HTtt.out HGtt.out HDtc.out (by simp)).mono ?_; rintro e w2 ⟨u, rfl, hT2, hb2⟩; obtain ⟨Atc, ntc, ctc, rfl, hn⟩ := hT2.form; clear hn)
  obtain ⟨gtc, hg⟩ : ∃ g, w2.heap.size = g := ⟨_, rfl⟩
  rw [hg]
  refine wp_world (fun V => Below w.heap.size w V ∧ Blk V gta 24 #[.int .i64 ta.kind, .int .i64 ta.int, .string ⟨ta.name.toArray⟩, .slice Ata nta cta] ∧ TVal V (.agg #[.int .i64 ta.kind, .int .i64 ta.int, .string ⟨ta.name.toArray⟩, .slice Ata nta cta]) ta ∧ Blk V (gta + 1) 24 #[.int .i64 tb.kind, .int .i64 tb.int, .string ⟨tb.name.toArray⟩, .slice Atb ntb ctb] ∧ TVal V (.agg #[.int .i64 tb.kind, .int .i64 tb.int, .string ⟨tb.name.toArray⟩, .slice Atb ntb ctb]) tb ∧ Blk V gtc 24 #[.int .i64 tc.kind, .int .i64 tc.int, .string ⟨tc.name.toArray⟩, .slice Atc ntc ctc] ∧ TVal V (.agg #[.int .i64 tc.kind, .int .i64 tc.int, .string ⟨tc.name.toArray⟩, .slice Atc ntc ctc]) tc) ⟨below_step (below_step HB.out hb2) (below_alloc _ _), (HKta.out.keep hb2).alloc _, (HTta.out.below hb2).below (below_alloc _ _), (HKtb.out.keep hb2).alloc _, (HTtb.out.below hb2).below (below_alloc _ _), by rw [← hg]; exact Blk.new _ _ _, hT2.below (below_alloc _ _)⟩ ?_
  clear hg hT2 hb2 HB qta0 qta1 qta2 qta3 qtb0 qtb1 qtb2 qtb3 qtt0 qtt1 qtt2 qtt3 HKta HTta HKtb HTtb HKtt HTtt
  rintro V3 ⟨hb, hkta, htta, hktb, httb, hktc, httc⟩
  have HB := Lib.hid hb
  have HKta := Lib.hid hkta
  have HTta := Lib.hid htta
  have qta0 := hkta.cell 0
  have qta1 := hkta.cell 1
  have qta2 := hkta.cell 2
  have qta3 := hkta.cell 3
  have HKtb := Lib.hid hktb
  have HTtb := Lib.hid httb
  have qtb0 := hktb.cell 0
  have qtb1 := hktb.cell 1
  have qtb2 := hktb.cell 2
  have qtb3 := hktb.cell 3
  have HKtc := Lib.hid hktc
  have HTtc := Lib.hid httc
  have qtc0 := hktc.cell 0
  have qtc1 := hktc.cell 1
  have qtc2 := hktc.cell 2
  have qtc3 := hktc.cell 3
  clear hb hkta htta hktb httb hktc httc
  go_upto_region 7 with (go_at_call 9; refine (do1_at HTta.out HGta.out HDtd.out (by simp)).mono ?_; rintro e w2 ⟨u, rfl, hT2, hb2⟩; obtain ⟨Atd, ntd, ctd, rfl, hn⟩ := hT2.form; clear hn)
  obtain ⟨gtd, hg⟩ : ∃ g, w2.heap.size = g := ⟨_, rfl⟩
  rw [hg]
  refine wp_world (fun V => Below w.heap.size w V ∧ Blk V gta 24 #[.int .i64 ta.kind, .int .i64 ta.int, .string ⟨ta.name.toArray⟩, .slice Ata nta cta] ∧ TVal V (.agg #[.int .i64 ta.kind, .int .i64 ta.int, .string ⟨ta.name.toArray⟩, .slice Ata nta cta]) ta ∧ Blk V (gta + 1) 24 #[.int .i64 tb.kind, .int .i64 tb.int, .string ⟨tb.name.toArray⟩, .slice Atb ntb ctb] ∧ TVal V (.agg #[.int .i64 tb.kind, .int .i64 tb.int, .string ⟨tb.name.toArray⟩, .slice Atb ntb ctb]) tb ∧ Blk V gtc 24 #[.int .i64 tc.kind, .int .i64 tc.int, .string ⟨tc.name.toArray⟩, .slice Atc ntc ctc] ∧ TVal V (.agg #[.int .i64 tc.kind, .int .i64 tc.int, .string ⟨tc.name.toArray⟩, .slice Atc ntc ctc]) tc ∧ Blk V gtd 24 #[.int .i64 td.kind, .int .i64 td.int, .string ⟨td.name.toArray⟩, .slice Atd ntd ctd] ∧ TVal V (.agg #[.int .i64 td.kind, .int .i64 td.int, .string ⟨td.name.toArray⟩, .slice Atd ntd ctd]) td) ⟨below_step (below_step HB.out hb2) (below_alloc _ _), (HKta.out.keep hb2).alloc _, (HTta.out.below hb2).below (below_alloc _ _), (HKtb.out.keep hb2).alloc _, (HTtb.out.below hb2).below (below_alloc _ _), (HKtc.out.keep hb2).alloc _, (HTtc.out.below hb2).below (below_alloc _ _), by rw [← hg]; exact Blk.new _ _ _, hT2.below (below_alloc _ _)⟩ ?_
  clear hg hT2 hb2 HB qta0 qta1 qta2 qta3 qtb0 qtb1 qtb2 qtb3 qtc0 qtc1 qtc2 qtc3 HKta HTta HKtb HTtb HKtc HTtc
  rintro V4 ⟨hb, hkta, htta, hktb, httb, hktc, httc, hktd, httd⟩
  have HB := Lib.hid hb
  have HKta := Lib.hid hkta
  have HTta := Lib.hid htta
  have qta0 := hkta.cell 0
  have qta1 := hkta.cell 1
  have qta2 := hkta.cell 2
  have qta3 := hkta.cell 3
  have HKtb := Lib.hid hktb
  have HTtb := Lib.hid httb
  have qtb0 := hktb.cell 0
  have qtb1 := hktb.cell 1
  have qtb2 := hktb.cell 2
  have qtb3 := hktb.cell 3
  have HKtc := Lib.hid hktc
  have HTtc := Lib.hid httc
  have qtc0 := hktc.cell 0
  have qtc1 := hktc.cell 1
  have qtc2 := hktc.cell 2
  have qtc3 := hktc.cell 3
  have HKtd := Lib.hid hktd
  have HTtd := Lib.hid httd
  have qtd0 := hktd.cell 0
  have qtd1 := hktd.cell 1
  have qtd2 := hktd.cell 2
  have qtd3 := hktd.cell 3
  clear hb hkta htta hktb httb hktc httc hktd httd
  go_upto_region 8 with (go_at_call 9; refine (do1_at HTtd.out HGtd.out HDth.out (by simp)).mono ?_; rintro e w2 ⟨u, rfl, hT2, hb2⟩; obtain ⟨Ath, nth, cth, rfl, hn⟩ := hT2.form; clear hn)
  obtain ⟨gth, hg⟩ : ∃ g, w2.heap.size = g := ⟨_, rfl⟩
  rw [hg]
  refine wp_world (fun V => Below w.heap.size w V ∧ Blk V gta 24 #[.int .i64 ta.kind, .int .i64 ta.int, .string ⟨ta.name.toArray⟩, .slice Ata nta cta] ∧ TVal V (.agg #[.int .i64 ta.kind, .int .i64 ta.int, .string ⟨ta.name.toArray⟩, .slice Ata nta cta]) ta ∧ Blk V (gta + 1) 24 #[.int .i64 tb.kind, .int .i64 tb.int, .string ⟨tb.name.toArray⟩, .slice Atb ntb ctb] ∧ TVal V (.agg #[.int .i64 tb.kind, .int .i64 tb.int, .string ⟨tb.name.toArray⟩, .slice Atb ntb ctb]) tb ∧ Blk V gtc 24 #[.int .i64 tc.kind, .int .i64 tc.int, .string ⟨tc.name.toArray⟩, .slice Atc ntc ctc] ∧ TVal V (.agg #[.int .i64 tc.kind, .int .i64 tc.int, .string ⟨tc.name.toArray⟩, .slice Atc ntc ctc]) tc ∧ Blk V gtd 24 #[.int .i64 td.kind, .int .i64 td.int, .string ⟨td.name.toArray⟩, .slice Atd ntd ctd] ∧ TVal V (.agg #[.int .i64 td.kind, .int .i64 td.int, .string ⟨td.name.toArray⟩, .slice Atd ntd ctd]) td ∧ Blk V gth 24 #[.int .i64 th.kind, .int .i64 th.int, .string ⟨th.name.toArray⟩, .slice Ath nth cth] ∧ TVal V (.agg #[.int .i64 th.kind, .int .i64 th.int, .string ⟨th.name.toArray⟩, .slice Ath nth cth]) th) ⟨below_step (below_step HB.out hb2) (below_alloc _ _), (HKta.out.keep hb2).alloc _, (HTta.out.below hb2).below (below_alloc _ _), (HKtb.out.keep hb2).alloc _, (HTtb.out.below hb2).below (below_alloc _ _), (HKtc.out.keep hb2).alloc _, (HTtc.out.below hb2).below (below_alloc _ _), (HKtd.out.keep hb2).alloc _, (HTtd.out.below hb2).below (below_alloc _ _), by rw [← hg]; exact Blk.new _ _ _, hT2.below (below_alloc _ _)⟩ ?_
  clear hg hT2 hb2 HB qta0 qta1 qta2 qta3 qtb0 qtb1 qtb2 qtb3 qtc0 qtc1 qtc2 qtc3 qtd0 qtd1 qtd2 qtd3 HKta HTta HKtb HTtb HKtc HTtc HKtd HTtd
  rintro V5 ⟨hb, hkta, htta, hktb, httb, hktc, httc, hktd, httd, hkth, htth⟩
  have HB := Lib.hid hb
  have HKta := Lib.hid hkta
  have HTta := Lib.hid htta
  have qta0 := hkta.cell 0
  have qta1 := hkta.cell 1
  have qta2 := hkta.cell 2
  have qta3 := hkta.cell 3
  have HKtb := Lib.hid hktb
  have HTtb := Lib.hid httb
  have qtb0 := hktb.cell 0
  have qtb1 := hktb.cell 1
  have qtb2 := hktb.cell 2
  have qtb3 := hktb.cell 3
  have HKtc := Lib.hid hktc
  have HTtc := Lib.hid httc
  have qtc0 := hktc.cell 0
  have qtc1 := hktc.cell 1
  have qtc2 := hktc.cell 2
  have qtc3 := hktc.cell 3
  have HKtd := Lib.hid hktd
  have HTtd := Lib.hid httd
  have qtd0 := hktd.cell 0
  have qtd1 := hktd.cell 1
  have qtd2 := hktd.cell 2
  have qtd3 := hktd.cell 3
  have HKth := Lib.hid hkth
  have HTth := Lib.hid htth
  have qth0 := hkth.cell 0
  have qth1 := hkth.cell 1
  have qth2 := hkth.cell 2
  have qth3 := hkth.cell 3
  clear hb hkta htta hktb httb hktc httc hktd httd hkth htth
  go_upto_region 9 with (go_at_call 9; refine (do2_at HTta.out HTtb.out HGta.out HGtb.out HDtj.out (by simp)).mono ?_; rintro e w2 ⟨u, rfl, hT2, hb2⟩; obtain ⟨Atj, ntj, ctj, rfl, hn⟩ := hT2.form; clear hn)
  obtain ⟨gtj, hg⟩ : ∃ g, w2.heap.size = g := ⟨_, rfl⟩
  rw [hg]
  refine wp_world (fun V => Below w.heap.size w V ∧ Blk V gta 24 #[.int .i64 ta.kind, .int .i64 ta.int, .string ⟨ta.name.toArray⟩, .slice Ata nta cta] ∧ TVal V (.agg #[.int .i64 ta.kind, .int .i64 ta.int, .string ⟨ta.name.toArray⟩, .slice Ata nta cta]) ta ∧ Blk V (gta + 1) 24 #[.int .i64 tb.kind, .int .i64 tb.int, .string ⟨tb.name.toArray⟩, .slice Atb ntb ctb] ∧ TVal V (.agg #[.int .i64 tb.kind, .int .i64 tb.int, .string ⟨tb.name.toArray⟩, .slice Atb ntb ctb]) tb ∧ Blk V gtc 24 #[.int .i64 tc.kind, .int .i64 tc.int, .string ⟨tc.name.toArray⟩, .slice Atc ntc ctc] ∧ TVal V (.agg #[.int .i64 tc.kind, .int .i64 tc.int, .string ⟨tc.name.toArray⟩, .slice Atc ntc ctc]) tc ∧ Blk V gtd 24 #[.int .i64 td.kind, .int .i64 td.int, .string ⟨td.name.toArray⟩, .slice Atd ntd ctd] ∧ TVal V (.agg #[.int .i64 td.kind, .int .i64 td.int, .string ⟨td.name.toArray⟩, .slice Atd ntd ctd]) td ∧ Blk V gth 24 #[.int .i64 th.kind, .int .i64 th.int, .string ⟨th.name.toArray⟩, .slice Ath nth cth] ∧ TVal V (.agg #[.int .i64 th.kind, .int .i64 th.int, .string ⟨th.name.toArray⟩, .slice Ath nth cth]) th ∧ Blk V gtj 24 #[.int .i64 tj.kind, .int .i64 tj.int, .string ⟨tj.name.toArray⟩, .slice Atj ntj ctj] ∧ TVal V (.agg #[.int .i64 tj.kind, .int .i64 tj.int, .string ⟨tj.name.toArray⟩, .slice Atj ntj ctj]) tj) ⟨below_step (below_step HB.out hb2) (below_alloc _ _), (HKta.out.keep hb2).alloc _, (HTta.out.below hb2).below (below_alloc _ _), (HKtb.out.keep hb2).alloc _, (HTtb.out.below hb2).below (below_alloc _ _), (HKtc.out.keep hb2).alloc _, (HTtc.out.below hb2).below (below_alloc _ _), (HKtd.out.keep hb2).alloc _, (HTtd.out.below hb2).below (below_alloc _ _), (HKth.out.keep hb2).alloc _, (HTth.out.below hb2).below (below_alloc _ _), by rw [← hg]; exact Blk.new _ _ _, hT2.below (below_alloc _ _)⟩ ?_
  clear hg hT2 hb2 HB qta0 qta1 qta2 qta3 qtb0 qtb1 qtb2 qtb3 qtc0 qtc1 qtc2 qtc3 qtd0 qtd1 qtd2 qtd3 qth0 qth1 qth2 qth3 HKta HTta HKtb HTtb HKtc HTtc HKtd HTtd HKth HTth
  rintro V6 ⟨hb, hkta, htta, hktb, httb, hktc, httc, hktd, httd, hkth, htth, hktj, httj⟩
  have HB := Lib.hid hb
  have HKta := Lib.hid hkta
  have HTta := Lib.hid htta
  have qta0 := hkta.cell 0
  have qta1 := hkta.cell 1
  have qta2 := hkta.cell 2
  have qta3 := hkta.cell 3
  have HKtb := Lib.hid hktb
  have HTtb := Lib.hid httb
  have qtb0 := hktb.cell 0
  have qtb1 := hktb.cell 1
  have qtb2 := hktb.cell 2
  have qtb3 := hktb.cell 3
  have HKtc := Lib.hid hktc
  have HTtc := Lib.hid httc
  have qtc0 := hktc.cell 0
  have qtc1 := hktc.cell 1
  have qtc2 := hktc.cell 2
  have qtc3 := hktc.cell 3
  have HKtd := Lib.hid hktd
  have HTtd := Lib.hid httd
  have qtd0 := hktd.cell 0
  have qtd1 := hktd.cell 1
  have qtd2 := hktd.cell 2
  have qtd3 := hktd.cell 3
  have HKth := Lib.hid hkth
  have HTth := Lib.hid htth
  have qth0 := hkth.cell 0
  have qth1 := hkth.cell 1
  have qth2 := hkth.cell 2
  have qth3 := hkth.cell 3
  have HKtj := Lib.hid hktj
  have HTtj := Lib.hid httj
  have qtj0 := hktj.cell 0
  have qtj1 := hktj.cell 1
  have qtj2 := hktj.cell 2
  have qtj3 := hktj.cell 3
  clear hb hkta htta hktb httb hktc httc hktd httd hkth htth hktj httj
  go_upto_region 10 with (go_at_call 9; refine (do1_at HTtj.out HGtj.out HDtn.out (by simp)).mono ?_; rintro e w2 ⟨u, rfl, hT2, hb2⟩; obtain ⟨Atn, ntn, ctn, rfl, hn⟩ := hT2.form; clear hn)
  obtain ⟨gtn, hg⟩ : ∃ g, w2.heap.size = g := ⟨_, rfl⟩
  rw [hg]
  refine wp_world (fun V => Below w.heap.size w V ∧ Blk V gta 24 #[.int .i64 ta.kind, .int .i64 ta.int, .string ⟨ta.name.toArray⟩, .slice Ata nta cta] ∧ TVal V (.agg #[.int .i64 ta.kind, .int .i64 ta.int, .string ⟨ta.name.toArray⟩, .slice Ata nta cta]) ta ∧ Blk V (gta + 1) 24 #[.int .i64 tb.kind, .int .i64 tb.int, .string ⟨tb.name.toArray⟩, .slice Atb ntb ctb] ∧ TVal V (.agg #[.int .i64 tb.kind, .int .i64 tb.int, .string ⟨tb.name.toArray⟩, .slice Atb ntb ctb]) tb ∧ Blk V gtc 24 #[.int .i64 tc.kind, .int .i64 tc.int, .string ⟨tc.name.toArray⟩, .slice Atc ntc ctc] ∧ TVal V (.agg #[.int .i64 tc.kind, .int .i64 tc.int, .string ⟨tc.name.toArray⟩, .slice Atc ntc ctc]) tc ∧ Blk V gtd 24 #[.int .i64 td.kind, .int .i64 td.int, .string ⟨td.name.toArray⟩, .slice Atd ntd ctd] ∧ TVal V (.agg #[.int .i64 td.kind, .int .i64 td.int, .string ⟨td.name.toArray⟩, .slice Atd ntd ctd]) td ∧ Blk V gth 24 #[.int .i64 th.kind, .int .i64 th.int, .string ⟨th.name.toArray⟩, .slice Ath nth cth] ∧ TVal V (.agg #[.int .i64 th.kind, .int .i64 th.int, .string ⟨th.name.toArray⟩, .slice Ath nth cth]) th ∧ Blk V gtj 24 #[.int .i64 tj.kind, .int .i64 tj.int, .string ⟨tj.name.toArray⟩, .slice Atj ntj ctj] ∧ TVal V (.agg #[.int .i64 tj.kind, .int .i64 tj.int, .string ⟨tj.name.toArray⟩, .slice Atj ntj ctj]) tj ∧ Blk V gtn 24 #[.int .i64 tn.kind, .int .i64 tn.int, .string ⟨tn.name.toArray⟩, .slice Atn ntn ctn] ∧ TVal V (.agg #[.int .i64 tn.kind, .int .i64 tn.int, .string ⟨tn.name.toArray⟩, .slice Atn ntn ctn]) tn) ⟨below_step (below_step HB.out hb2) (below_alloc _ _), (HKta.out.keep hb2).alloc _, (HTta.out.below hb2).below (below_alloc _ _), (HKtb.out.keep hb2).alloc _, (HTtb.out.below hb2).below (below_alloc _ _), (HKtc.out.keep hb2).alloc _, (HTtc.out.below hb2).below (below_alloc _ _), (HKtd.out.keep hb2).alloc _, (HTtd.out.below hb2).below (below_alloc _ _), (HKth.out.keep hb2).alloc _, (HTth.out.below hb2).below (below_alloc _ _), (HKtj.out.keep hb2).alloc _, (HTtj.out.below hb2).below (below_alloc _ _), by rw [← hg]; exact Blk.new _ _ _, hT2.below (below_alloc _ _)⟩ ?_
  clear hg hT2 hb2 HB qta0 qta1 qta2 qta3 qtb0 qtb1 qtb2 qtb3 qtc0 qtc1 qtc2 qtc3 qtd0 qtd1 qtd2 qtd3 qth0 qth1 qth2 qth3 qtj0 qtj1 qtj2 qtj3 HKta HTta HKtb HTtb HKtc HTtc HKtd HTtd HKth HTth HKtj HTtj
  rintro V7 ⟨hb, hkta, htta, hktb, httb, hktc, httc, hktd, httd, hkth, htth, hktj, httj, hktn, httn⟩
  have HB := Lib.hid hb
  have HKta := Lib.hid hkta
  have HTta := Lib.hid htta
  have qta0 := hkta.cell 0
  have qta1 := hkta.cell 1
  have qta2 := hkta.cell 2
  have qta3 := hkta.cell 3
  have HKtb := Lib.hid hktb
  have HTtb := Lib.hid httb
  have qtb0 := hktb.cell 0
  have qtb1 := hktb.cell 1
  have qtb2 := hktb.cell 2
  have qtb3 := hktb.cell 3
  have HKtc := Lib.hid hktc
  have HTtc := Lib.hid httc
  have qtc0 := hktc.cell 0
  have qtc1 := hktc.cell 1
  have qtc2 := hktc.cell 2
  have qtc3 := hktc.cell 3
  have HKtd := Lib.hid hktd
  have HTtd := Lib.hid httd
  have qtd0 := hktd.cell 0
  have qtd1 := hktd.cell 1
  have qtd2 := hktd.cell 2
  have qtd3 := hktd.cell 3
  have HKth := Lib.hid hkth
  have HTth := Lib.hid htth
  have qth0 := hkth.cell 0
  have qth1 := hkth.cell 1
  have qth2 := hkth.cell 2
  have qth3 := hkth.cell 3
  have HKtj := Lib.hid hktj
  have HTtj := Lib.hid httj
  have qtj0 := hktj.cell 0
  have qtj1 := hktj.cell 1
  have qtj2 := hktj.cell 2
  have qtj3 := hktj.cell 3
  have HKtn := Lib.hid hktn
  have HTtn := Lib.hid httn
  have qtn0 := hktn.cell 0
  have qtn1 := hktn.cell 1
  have qtn2 := hktn.cell 2
  have qtn3 := hktn.cell 3
  clear hb hkta htta hktb httb hktc httc hktd httd hkth htth hktj httj hktn httn
  go_upto_region 11 with (go_at_call 9; refine (do1_at HTtj.out HGtj.out HDtr.out (by simp)).mono ?_; rintro e w2 ⟨u, rfl, hT2, hb2⟩; obtain ⟨Atr, ntr, ctr, rfl, hn⟩ := hT2.form; clear hn)
  obtain ⟨gtr, hg⟩ : ∃ g, w2.heap.size = g := ⟨_, rfl⟩
  rw [hg]
  refine wp_world (fun V => Below w.heap.size w V ∧ Blk V gta 24 #[.int .i64 ta.kind, .int .i64 ta.int, .string ⟨ta.name.toArray⟩, .slice Ata nta cta] ∧ TVal V (.agg #[.int .i64 ta.kind, .int .i64 ta.int, .string ⟨ta.name.toArray⟩, .slice Ata nta cta]) ta ∧ Blk V (gta + 1) 24 #[.int .i64 tb.kind, .int .i64 tb.int, .string ⟨tb.name.toArray⟩, .slice Atb ntb ctb] ∧ TVal V (.agg #[.int .i64 tb.kind, .int .i64 tb.int, .string ⟨tb.name.toArray⟩, .slice Atb ntb ctb]) tb ∧ Blk V gtc 24 #[.int .i64 tc.kind, .int .i64 tc.int, .string ⟨tc.name.toArray⟩, .slice Atc ntc ctc] ∧ TVal V (.agg #[.int .i64 tc.kind, .int .i64 tc.int, .string ⟨tc.name.toArray⟩, .slice Atc ntc ctc]) tc ∧ Blk V gtd 24 #[.int .i64 td.kind, .int .i64 td.int, .string ⟨td.name.toArray⟩, .slice Atd ntd ctd] ∧ TVal V (.agg #[.int .i64 td.kind, .int .i64 td.int, .string ⟨td.name.toArray⟩, .slice Atd ntd ctd]) td ∧ Blk V gth 24 #[.int .i64 th.kind, .int .i64 th.int, .string ⟨th.name.toArray⟩, .slice Ath nth cth] ∧ TVal V (.agg #[.int .i64 th.kind, .int .i64 th.int, .string ⟨th.name.toArray⟩, .slice Ath nth cth]) th ∧ Blk V gtn 24 #[.int .i64 tn.kind, .int .i64 tn.int, .string ⟨tn.name.toArray⟩, .slice Atn ntn ctn] ∧ TVal V (.agg #[.int .i64 tn.kind, .int .i64 tn.int, .string ⟨tn.name.toArray⟩, .slice Atn ntn ctn]) tn ∧ Blk V gtr 24 #[.int .i64 tr.kind, .int .i64 tr.int, .string ⟨tr.name.toArray⟩, .slice Atr ntr ctr] ∧ TVal V (.agg #[.int .i64 tr.kind, .int .i64 tr.int, .string ⟨tr.name.toArray⟩, .slice Atr ntr ctr]) tr) ⟨below_step (below_step HB.out hb2) (below_alloc _ _), (HKta.out.keep hb2).alloc _, (HTta.out.below hb2).below (below_alloc _ _), (HKtb.out.keep hb2).alloc _, (HTtb.out.below hb2).below (below_alloc _ _), (HKtc.out.keep hb2).alloc _, (HTtc.out.below hb2).below (below_alloc _ _), (HKtd.out.keep hb2).alloc _, (HTtd.out.below hb2).below (below_alloc _ _), (HKth.out.keep hb2).alloc _, (HTth.out.below hb2).below (below_alloc _ _), (HKtn.out.keep hb2).alloc _, (HTtn.out.below hb2).below (below_alloc _ _), by rw [← hg]; exact Blk.new _ _ _, hT2.below (below_alloc _ _)⟩ ?_
  clear hg hT2 hb2 HB qta0 qta1 qta2 qta3 qtb0 qtb1 qtb2 qtb3 qtc0 qtc1 qtc2 qtc3 qtd0 qtd1 qtd2 qtd3 qth0 qth1 qth2 qth3 qtj0 qtj1 qtj2 qtj3 qtn0 qtn1 qtn2 qtn3 HKta HTta HKtb HTtb HKtc HTtc HKtd HTtd HKth HTth HKtj HTtj HKtn HTtn
  rintro V8 ⟨hb, hkta, htta, hktb, httb, hktc, httc, hktd, httd, hkth, htth, hktn, httn, hktr, httr⟩
  have HB := Lib.hid hb
  have HKta := Lib.hid hkta
  have HTta := Lib.hid htta
  have qta0 := hkta.cell 0
  have qta1 := hkta.cell 1
  have qta2 := hkta.cell 2
  have qta3 := hkta.cell 3
  have HKtb := Lib.hid hktb
  have HTtb := Lib.hid httb
  have qtb0 := hktb.cell 0
  have qtb1 := hktb.cell 1
  have qtb2 := hktb.cell 2
  have qtb3 := hktb.cell 3
  have HKtc := Lib.hid hktc
  have HTtc := Lib.hid httc
  have qtc0 := hktc.cell 0
  have qtc1 := hktc.cell 1
  have qtc2 := hktc.cell 2
  have qtc3 := hktc.cell 3
  have HKtd := Lib.hid hktd
  have HTtd := Lib.hid httd
  have qtd0 := hktd.cell 0
  have qtd1 := hktd.cell 1
  have qtd2 := hktd.cell 2
  have qtd3 := hktd.cell 3
  have HKth := Lib.hid hkth
  have HTth := Lib.hid htth
  have qth0 := hkth.cell 0
  have qth1 := hkth.cell 1
  have qth2 := hkth.cell 2
  have qth3 := hkth.cell 3
  have HKtn := Lib.hid hktn
  have HTtn := Lib.hid httn
  have qtn0 := hktn.cell 0
  have qtn1 := hktn.cell 1
  have qtn2 := hktn.cell 2
  have qtn3 := hktn.cell 3
  have HKtr := Lib.hid hktr
  have HTtr := Lib.hid httr
  have qtr0 := hktr.cell 0
  have qtr1 := hktr.cell 1
  have qtr2 := hktr.cell 2
  have qtr3 := hktr.cell 3
  clear hb hkta htta hktb httb hktc httc hktd httd hkth htth hktn httn hktr httr
  go_upto_region 12 with (go_at_call 9; refine (do1_at HTtb.out HGtb.out HDts.out (by simp)).mono ?_; rintro e w2 ⟨u, rfl, hT2, hb2⟩; obtain ⟨Ats, nts, cts, rfl, hn⟩ := hT2.form; clear hn)
  obtain ⟨gts, hg⟩ : ∃ g, w2.heap.size = g := ⟨_, rfl⟩
  rw [hg]
  refine wp_world (fun V => Below w.heap.size w V ∧ Blk V gta 24 #[.int .i64 ta.kind, .int .i64 ta.int, .string ⟨ta.name.toArray⟩, .slice Ata nta cta] ∧ TVal V (.agg #[.int .i64 ta.kind, .int .i64 ta.int, .string ⟨ta.name.toArray⟩, .slice Ata nta cta]) ta ∧ Blk V gtc 24 #[.int .i64 tc.kind, .int .i64 tc.int, .string ⟨tc.name.toArray⟩, .slice Atc ntc ctc] ∧ TVal V (.agg #[.int .i64 tc.kind, .int .i64 tc.int, .string ⟨tc.name.toArray⟩, .slice Atc ntc ctc]) tc ∧ Blk V gtd 24 #[.int .i64 td.kind, .int .i64 td.int, .string ⟨td.name.toArray⟩, .slice Atd ntd ctd] ∧ TVal V (.agg #[.int .i64 td.kind, .int .i64 td.int, .string ⟨td.name.toArray⟩, .slice Atd ntd ctd]) td ∧ Blk V gth 24 #[.int .i64 th.kind, .int .i64 th.int, .string ⟨th.name.toArray⟩, .slice Ath nth cth] ∧ TVal V (.agg #[.int .i64 th.kind, .int .i64 th.int, .string ⟨th.name.toArray⟩, .slice Ath nth cth]) th ∧ Blk V gtn 24 #[.int .i64 tn.kind, .int .i64 tn.int, .string ⟨tn.name.toArray⟩, .slice Atn ntn ctn] ∧ TVal V (.agg #[.int .i64 tn.kind, .int .i64 tn.int, .string ⟨tn.name.toArray⟩, .slice Atn ntn ctn]) tn ∧ Blk V gtr 24 #[.int .i64 tr.kind, .int .i64 tr.int, .string ⟨tr.name.toArray⟩, .slice Atr ntr ctr] ∧ TVal V (.agg #[.int .i64 tr.kind, .int .i64 tr.int, .string ⟨tr.name.toArray⟩, .slice Atr ntr ctr]) tr ∧ Blk V gts 24 #[.int .i64 ts.kind, .int .i64 ts.int, .string ⟨ts.name.toArray⟩, .slice Ats nts cts] ∧ TVal V (.agg #[.int .i64 ts.kind, .int .i64 ts.int, .string ⟨ts.name.toArray⟩, .slice Ats nts cts]) ts) ⟨below_step (below_step HB.out hb2) (below_alloc _ _), (HKta.out.keep hb2).alloc _, (HTta.out.below hb2).below (below_alloc _ _), (HKtc.out.keep hb2).alloc _, (HTtc.out.below hb2).below (below_alloc _ _), (HKtd.out.keep hb2).alloc _, (HTtd.out.below hb2).below (below_alloc _ _), (HKth.out.keep hb2).alloc _, (HTth.out.below hb2).below (below_alloc _ _), (HKtn.out.keep hb2).alloc _, (HTtn.out.below hb2).below (below_alloc _ _), (HKtr.out.keep hb2).alloc _, (HTtr.out.below hb2).below (below_alloc _ _), by rw [← hg]; exact Blk.new _ _ _, hT2.below (below_alloc _ _)⟩ ?_
  clear hg hT2 hb2 HB qta0 qta1 qta2 qta3 qtb0 qtb1 qtb2 qtb3 qtc0 qtc1 qtc2 qtc3 qtd0 qtd1 qtd2 qtd3 qth0 qth1 qth2 qth3 qtn0 qtn1 qtn2 qtn3 qtr0 qtr1 qtr2 qtr3 HKta HTta HKtb HTtb HKtc HTtc HKtd HTtd HKth HTth HKtn HTtn HKtr HTtr
  rintro V9 ⟨hb, hkta, htta, hktc, httc, hktd, httd, hkth, htth, hktn, httn, hktr, httr, hkts, htts⟩
  have HB := Lib.hid hb
  have HKta := Lib.hid hkta
  have HTta := Lib.hid htta
  have qta0 := hkta.cell 0
  have qta1 := hkta.cell 1
  have qta2 := hkta.cell 2
  have qta3 := hkta.cell 3
  have HKtc := Lib.hid hktc
  have HTtc := Lib.hid httc
  have qtc0 := hktc.cell 0
  have qtc1 := hktc.cell 1
  have qtc2 := hktc.cell 2
  have qtc3 := hktc.cell 3
  have HKtd := Lib.hid hktd
  have HTtd := Lib.hid httd
  have qtd0 := hktd.cell 0
  have qtd1 := hktd.cell 1
  have qtd2 := hktd.cell 2
  have qtd3 := hktd.cell 3
  have HKth := Lib.hid hkth
  have HTth := Lib.hid htth
  have qth0 := hkth.cell 0
  have qth1 := hkth.cell 1
  have qth2 := hkth.cell 2
  have qth3 := hkth.cell 3
  have HKtn := Lib.hid hktn
  have HTtn := Lib.hid httn
  have qtn0 := hktn.cell 0
  have qtn1 := hktn.cell 1
  have qtn2 := hktn.cell 2
  have qtn3 := hktn.cell 3
  have HKtr := Lib.hid hktr
  have HTtr := Lib.hid httr
  have qtr0 := hktr.cell 0
  have qtr1 := hktr.cell 1
  have qtr2 := hktr.cell 2
  have qtr3 := hktr.cell 3
  have HKts := Lib.hid hkts
  have HTts := Lib.hid htts
  have qts0 := hkts.cell 0
  have qts1 := hkts.cell 1
  have qts2 := hkts.cell 2
  have qts3 := hkts.cell 3
  clear hb hkta htta hktc httc hktd httd hkth htth hktn httn hktr httr hkts htts
  go_upto_region 13 with (go_at_call 9; refine (do2_at HTts.out HTtd.out HGts.out HGtd.out HDtu.out (by simp)).mono ?_; rintro e w2 ⟨u, rfl, hT2, hb2⟩; obtain ⟨Atu, ntu, ctu, rfl, hn⟩ := hT2.form; clear hn)
  obtain ⟨gtu, hg⟩ : ∃ g, w2.heap.size = g := ⟨_, rfl⟩
  rw [hg]
  refine wp_world (fun V => Below w.heap.size w V ∧ Blk V gta 24 #[.int .i64 ta.kind, .int .i64 ta.int, .string ⟨ta.name.toArray⟩, .slice Ata nta cta] ∧ TVal V (.agg #[.int .i64 ta.kind, .int .i64 ta.int, .string ⟨ta.name.toArray⟩, .slice Ata nta cta]) ta ∧ Blk V gtc 24 #[.int .i64 tc.kind, .int .i64 tc.int, .string ⟨tc.name.toArray⟩, .slice Atc ntc ctc] ∧ TVal V (.agg #[.int .i64 tc.kind, .int .i64 tc.int, .string ⟨tc.name.toArray⟩, .slice Atc ntc ctc]) tc ∧ Blk V gth 24 #[.int .i64 th.kind, .int .i64 th.int, .string ⟨th.name.toArray⟩, .slice Ath nth cth] ∧ TVal V (.agg #[.int .i64 th.kind, .int .i64 th.int, .string ⟨th.name.toArray⟩, .slice Ath nth cth]) th ∧ Blk V gtn 24 #[.int .i64 tn.kind, .int .i64 tn.int, .string ⟨tn.name.toArray⟩, .slice Atn ntn ctn] ∧ TVal V (.agg #[.int .i64 tn.kind, .int .i64 tn.int, .string ⟨tn.name.toArray⟩, .slice Atn ntn ctn]) tn ∧ Blk V gtr 24 #[.int .i64 tr.kind, .int .i64 tr.int, .string ⟨tr.name.toArray⟩, .slice Atr ntr ctr] ∧ TVal V (.agg #[.int .i64 tr.kind, .int .i64 tr.int, .string ⟨tr.name.toArray⟩, .slice Atr ntr ctr]) tr ∧ Blk V gtu 24 #[.int .i64 tu.kind, .int .i64 tu.int, .string ⟨tu.name.toArray⟩, .slice Atu ntu ctu] ∧ TVal V (.agg #[.int .i64 tu.kind, .int .i64 tu.int, .string ⟨tu.name.toArray⟩, .slice Atu ntu ctu]) tu) ⟨below_step (below_step HB.out hb2) (below_alloc _ _), (HKta.out.keep hb2).alloc _, (HTta.out.below hb2).below (below_alloc _ _), (HKtc.out.keep hb2).alloc _, (HTtc.out.below hb2).below (below_alloc _ _), (HKth.out.keep hb2).alloc _, (HTth.out.below hb2).below (below_alloc _ _), (HKtn.out.keep hb2).alloc _, (HTtn.out.below hb2).below (below_alloc _ _), (HKtr.out.keep hb2).alloc _, (HTtr.out.below hb2).below (below_alloc _ _), by rw [← hg]; exact Blk.new _ _ _, hT2.below (below_alloc _ _)⟩ ?_
  clear hg hT2 hb2 HB qta0 qta1 qta2 qta3 qtc0 qtc1 qtc2 qtc3 qtd0 qtd1 qtd2 qtd3 qth0 qth1 qth2 qth3 qtn0 qtn1 qtn2 qtn3 qtr0 qtr1 qtr2 qtr3 qts0 qts1 qts2 qts3 HKta HTta HKtc HTtc HKtd HTtd HKth HTth HKtn HTtn HKtr HTtr HKts HTts
  rintro V10 ⟨hb, hkta, htta, hktc, httc, hkth, htth, hktn, httn, hktr, httr, hktu, httu⟩
  have HB := Lib.hid hb
  have HKta := Lib.hid hkta
  have HTta := Lib.hid htta
  have qta0 := hkta.cell 0
  have qta1 := hkta.cell 1
  have qta2 := hkta.cell 2
  have qta3 := hkta.cell 3
  have HKtc := Lib.hid hktc
  have HTtc := Lib.hid httc
  have qtc0 := hktc.cell 0
  have qtc1 := hktc.cell 1
  have qtc2 := hktc.cell 2
  have qtc3 := hktc.cell 3
  have HKth := Lib.hid hkth
  have HTth := Lib.hid htth
  have qth0 := hkth.cell 0
  have qth1 := hkth.cell 1
  have qth2 := hkth.cell 2
  have qth3 := hkth.cell 3
  have HKtn := Lib.hid hktn
  have HTtn := Lib.hid httn
  have qtn0 := hktn.cell 0
  have qtn1 := hktn.cell 1
  have qtn2 := hktn.cell 2
  have qtn3 := hktn.cell 3
  have HKtr := Lib.hid hktr
  have HTtr := Lib.hid httr
  have qtr0 := hktr.cell 0
  have qtr1 := hktr.cell 1
  have qtr2 := hktr.cell 2
  have qtr3 := hktr.cell 3
  have HKtu := Lib.hid hktu
  have HTtu := Lib.hid httu
  have qtu0 := hktu.cell 0
  have qtu1 := hktu.cell 1
  have qtu2 := hktu.cell 2
  have qtu3 := hktu.cell 3
  clear hb hkta htta hktc httc hkth htth hktn httn hktr httr hktu httu
  have HS1 : Hid (∀ V, Below V10.heap.size V10 V → Calls Try.prog 11 #[.agg #[.int .i64 tc.kind, .int .i64 tc.int, .string ⟨tc.name.toArray⟩, .slice Atc ntc ctc], .agg #[.int .i64 ta.kind, .int .i64 ta.int, .string ⟨ta.name.toArray⟩, .slice Ata nta cta]] V fun e w' => e = .returned (.bool true) ∧ Below V.heap.size V w') := fun V hb => (same_v (HTtc.out.below hb) (HTta.out.below hb)).mono (by rintro e w' ⟨rfl, h⟩; exact ⟨by rw [show (tc.cmp ta == 0) = true by rw [← HQc.out, (TV.cmp_zero _ _).2 rfl]; rfl], h⟩)
  have HS2 : Hid (∀ V, Below V10.heap.size V10 V → Calls Try.prog 11 #[.agg #[.int .i64 th.kind, .int .i64 th.int, .string ⟨th.name.toArray⟩, .slice Ath nth cth], .agg #[.int .i64 ta.kind, .int .i64 ta.int, .string ⟨ta.name.toArray⟩, .slice Ata nta cta]] V fun e w' => e = .returned (.bool true) ∧ Below V.heap.size V w') := fun V hb => (same_v (HTth.out.below hb) (HTta.out.below hb)).mono (by rintro e w' ⟨rfl, h⟩; exact ⟨by rw [show (th.cmp ta == 0) = true by rw [← HQh.out, (TV.cmp_zero _ _).2 rfl]; rfl], h⟩)
  have HS4 : Hid (∀ V, Below V10.heap.size V10 V → Calls Try.prog 11 #[.agg #[.int .i64 tr.kind, .int .i64 tr.int, .string ⟨tr.name.toArray⟩, .slice Atr ntr ctr], .agg #[.int .i64 tu.kind, .int .i64 tu.int, .string ⟨tu.name.toArray⟩, .slice Atu ntu ctu]] V fun e w' => e = .returned (.bool true) ∧ Below V.heap.size V w') := fun V hb => (same_v (HTtr.out.below hb) (HTtu.out.below hb)).mono (by rintro e w' ⟨rfl, h⟩; exact ⟨by rw [show (tr.cmp tu == 0) = true by rw [HQu.out, (TV.cmp_zero _ _).2 rfl]; rfl], h⟩)
  have HS3 : Hid (∀ V, Below V10.heap.size V10 V → Calls Try.prog 11 #[.agg #[.int .i64 tn.kind, .int .i64 tn.int, .string ⟨tn.name.toArray⟩, .slice Atn ntn ctn], .agg #[.int .i64 1, .int .i64 ((n1 : Int) + (n2 : Int)), .string ⟨#[]⟩, .slice none 0 0]] V fun e w' => e = .returned (.bool true) ∧ Below V.heap.size V w') := fun V hb => (same_v (HTtn.out.below hb) (tval_i V _)).mono (by rintro e w' ⟨rfl, h⟩; exact ⟨by rw [show (tn.cmp (tI ((n1 : Int) + (n2 : Int))) == 0) = true by rw [HQn.out, (TV.cmp_zero _ _).2 rfl]; rfl], h⟩)
  have HLV : Hid (∀ V, Below V10.heap.size V10 V → Calls Try.prog 8 #[] V fun e w' => e = .returned (.bool true) ∧ Below V.heap.size V w') := fun V hb => live_any V
  have HKP : Hid (∀ V, Below V10.heap.size V10 V → (V.cell? ⟨gta, 0, none⟩ = some (.int .i64 ta.kind) ∧ V.cell? ⟨gta, 1, none⟩ = some (.int .i64 ta.int) ∧ V.cell? ⟨gta, 2, none⟩ = some (.string ⟨ta.name.toArray⟩) ∧ V.cell? ⟨gta, 3, none⟩ = some (.slice Ata nta cta) ∧ V.cell? ⟨gtc, 0, none⟩ = some (.int .i64 tc.kind) ∧ V.cell? ⟨gtc, 1, none⟩ = some (.int .i64 tc.int) ∧ V.cell? ⟨gtc, 2, none⟩ = some (.string ⟨tc.name.toArray⟩) ∧ V.cell? ⟨gtc, 3, none⟩ = some (.slice Atc ntc ctc) ∧ V.cell? ⟨gth, 0, none⟩ = some (.int .i64 th.kind) ∧ V.cell? ⟨gth, 1, none⟩ = some (.int .i64 th.int) ∧ V.cell? ⟨gth, 2, none⟩ = some (.string ⟨th.name.toArray⟩) ∧ V.cell? ⟨gth, 3, none⟩ = some (.slice Ath nth cth) ∧ V.cell? ⟨gtn, 0, none⟩ = some (.int .i64 tn.kind) ∧ V.cell? ⟨gtn, 1, none⟩ = some (.int .i64 tn.int) ∧ V.cell? ⟨gtn, 2, none⟩ = some (.string ⟨tn.name.toArray⟩) ∧ V.cell? ⟨gtn, 3, none⟩ = some (.slice Atn ntn ctn) ∧ V.cell? ⟨gtr, 0, none⟩ = some (.int .i64 tr.kind) ∧ V.cell? ⟨gtr, 1, none⟩ = some (.int .i64 tr.int) ∧ V.cell? ⟨gtr, 2, none⟩ = some (.string ⟨tr.name.toArray⟩) ∧ V.cell? ⟨gtr, 3, none⟩ = some (.slice Atr ntr ctr) ∧ V.cell? ⟨gtu, 0, none⟩ = some (.int .i64 tu.kind) ∧ V.cell? ⟨gtu, 1, none⟩ = some (.int .i64 tu.int) ∧ V.cell? ⟨gtu, 2, none⟩ = some (.string ⟨tu.name.toArray⟩) ∧ V.cell? ⟨gtu, 3, none⟩ = some (.slice Atu ntu ctu)) ∧ Below V10.heap.size V10 V) := fun V hb => ⟨⟨(HKta.out.keep hb).cell 0, (HKta.out.keep hb).cell 1, (HKta.out.keep hb).cell 2, (HKta.out.keep hb).cell 3, (HKtc.out.keep hb).cell 0, (HKtc.out.keep hb).cell 1, (HKtc.out.keep hb).cell 2, (HKtc.out.keep hb).cell 3, (HKth.out.keep hb).cell 0, (HKth.out.keep hb).cell 1, (HKth.out.keep hb).cell 2, (HKth.out.keep hb).cell 3, (HKtn.out.keep hb).cell 0, (HKtn.out.keep hb).cell 1, (HKtn.out.keep hb).cell 2, (HKtn.out.keep hb).cell 3, (HKtr.out.keep hb).cell 0, (HKtr.out.keep hb).cell 1, (HKtr.out.keep hb).cell 2, (HKtr.out.keep hb).cell 3, (HKtu.out.keep hb).cell 0, (HKtu.out.keep hb).cell 1, (HKtu.out.keep hb).cell 2, (HKtu.out.keep hb).cell 3⟩, hb⟩
  have H00 : Hid (Below V10.heap.size V10 V10.drew) := (Below.refl _ _).drew
  have hcat : (⟨#[]⟩ : ByteArray) ++ ⟨#[]⟩ = ⟨#[]⟩ := by rfl
  have hw : wrap64 ((n1 : Int) + (n2 : Int)) = (n1 : Int) + (n2 : Int) := by unfold wrap64; omega
  have hw2 : IntKind.i64.wrap ((n1 : Int) + (n2 : Int)) = (n1 : Int) + (n2 : Int) := by simp [IntKind.wrap, IntKind.signed, IntKind.bits]; omega
  clear HKta HTta HKtc HTtc HKth HTth HKtn HTtn HKtr HTtr HKtu HTtu
  go_region_held3 (fun V => (V.cell? ⟨gta, 0, none⟩ = some (.int .i64 ta.kind) ∧ V.cell? ⟨gta, 1, none⟩ = some (.int .i64 ta.int) ∧ V.cell? ⟨gta, 2, none⟩ = some (.string ⟨ta.name.toArray⟩) ∧ V.cell? ⟨gta, 3, none⟩ = some (.slice Ata nta cta) ∧ V.cell? ⟨gtc, 0, none⟩ = some (.int .i64 tc.kind) ∧ V.cell? ⟨gtc, 1, none⟩ = some (.int .i64 tc.int) ∧ V.cell? ⟨gtc, 2, none⟩ = some (.string ⟨tc.name.toArray⟩) ∧ V.cell? ⟨gtc, 3, none⟩ = some (.slice Atc ntc ctc) ∧ V.cell? ⟨gth, 0, none⟩ = some (.int .i64 th.kind) ∧ V.cell? ⟨gth, 1, none⟩ = some (.int .i64 th.int) ∧ V.cell? ⟨gth, 2, none⟩ = some (.string ⟨th.name.toArray⟩) ∧ V.cell? ⟨gth, 3, none⟩ = some (.slice Ath nth cth) ∧ V.cell? ⟨gtn, 0, none⟩ = some (.int .i64 tn.kind) ∧ V.cell? ⟨gtn, 1, none⟩ = some (.int .i64 tn.int) ∧ V.cell? ⟨gtn, 2, none⟩ = some (.string ⟨tn.name.toArray⟩) ∧ V.cell? ⟨gtn, 3, none⟩ = some (.slice Atn ntn ctn) ∧ V.cell? ⟨gtr, 0, none⟩ = some (.int .i64 tr.kind) ∧ V.cell? ⟨gtr, 1, none⟩ = some (.int .i64 tr.int) ∧ V.cell? ⟨gtr, 2, none⟩ = some (.string ⟨tr.name.toArray⟩) ∧ V.cell? ⟨gtr, 3, none⟩ = some (.slice Atr ntr ctr) ∧ V.cell? ⟨gtu, 0, none⟩ = some (.int .i64 tu.kind) ∧ V.cell? ⟨gtu, 1, none⟩ = some (.int .i64 tu.int) ∧ V.cell? ⟨gtu, 2, none⟩ = some (.string ⟨tu.name.toArray⟩) ∧ V.cell? ⟨gtu, 3, none⟩ = some (.slice Atu ntu ctu)) ∧ Below V10.heap.size V10 V) (first | exact HKP.out _ H00.out | exact HKP.out _ (by assumption) | assumption) ((first
    | (go_at_call 11; (with_reducible refine (HS1.out _ (And.right (by assumption))).mono ?_); rintro r V9 ⟨rfl, hb9⟩; have hP9 : Below V10.heap.size V10 V9 := below_step (And.right (by assumption)) hb9; clear hb9)
    | (go_at_call 11; (with_reducible refine (HS2.out _ (And.right (by assumption))).mono ?_); rintro r V9 ⟨rfl, hb9⟩; have hP9 : Below V10.heap.size V10 V9 := below_step (And.right (by assumption)) hb9; clear hb9)
    | (go_at_call 11; (with_reducible refine (HS3.out _ (And.right (by assumption))).mono ?_); rintro r V9 ⟨rfl, hb9⟩; have hP9 : Below V10.heap.size V10 V9 := below_step (And.right (by assumption)) hb9; clear hb9)
    | (go_at_call 11; (with_reducible refine (HS4.out _ (And.right (by assumption))).mono ?_); rintro r V9 ⟨rfl, hb9⟩; have hP9 : Below V10.heap.size V10 V9 := below_step (And.right (by assumption)) hb9; clear hb9)
    | (go_at_call 15; refine (tint_any _ _).mono ?_; rintro r V9 ⟨rfl, hb9⟩; have hP9 : Below V10.heap.size V10 V9 := below_step (And.right (by assumption)) hb9; clear hb9)
    | (go_at_call 8; refine (HLV.out _ (And.right (by assumption))).mono ?_; rintro r V9 ⟨rfl, hb9⟩; have hP9 : Below V10.heap.size V10 V9 := below_step (And.right (by assumption)) hb9; clear hb9)))
  rename_i hHeld9
  have hH9 := hHeld9.2
  clear hHeld9
  go_wp2
  go_ret
  exact ⟨rfl, below_step HB.out hH9⟩
end
end Go.Proofs.Ytbpnlpjbjmojfaa
