/- Heap (layer 9): the walks of the maker's atom and cell. Heap (layer 9): the walk of slices.Insert at the head of a row of words. -/
import Derived.Test.YtefnjplfemgibaaHpA
import Derived.Shelf.Spec.SlicesInsertGrow
namespace Go.Proofs.Ytefnjplfemgibaa
section
open Go.RowKit Go.Maps Go.WideMaps
set_option linter.unusedVariables false

theorem leafW_small {n tag : Nat} (hn : n ≤ 10000000) (ht : tag < 8) : leafW n tag = 8 * n + tag := by unfold leafW; omega
theorem own_rdk {W : World} {base e n : Nat} {A : Option Addr} {c : Nat} {w : List Nat} (h : W.ownsRow base e 1 (.slice A n c) n (w.map nv)) : RdK .u64 W A (w.map (fun (x : Nat) => (x : Int))) ∧ w.length = n := by
  have hl : w.length = n := by have := h.1; simpa using this
  refine ⟨?_, hl⟩
  rcases h.2 with ⟨_, rfl⟩ | ⟨g, cap, cur, hv, _⟩
  · exact .inl (by rw [List.eq_nil_of_length_eq_zero hl]; rfl)
  · obtain ⟨rfl, _, rfl⟩ := Value.slice.inj hv
    refine .inr ⟨g, 0, rfl, fun j hj => ?_⟩
    have hj' : j < w.length := by simpa using hj
    have hc := h.cells (g := g) rfl j (nv (w[j]'hj')) (by simp [hj'])
    rw [Addr.add_lit] at hc
    rw [hc]
    simp [nv]
section
variable {w0 W V V' : World} {F : Nat → Prop} {pm b1 b2 : Nat} {vw va : Value} {st : HSt} {na : List (List UInt8)} {rs : Value × List Nat}
theorem MKp.back (h : MKp w0 W F pm b1 b2 vw va rs.1 st st.nm rs.2) : MK w0 W F pm b1 b2 st rs := ⟨_, _, h⟩
set_option maxRecDepth 100000 in
set_option maxHeartbeats 1000000 in
theorem matom_v (h : MK w0 W F pm b1 b2 st rs) (s : List UInt8) (hs : s.length ≤ 1000000) (hl : st.nm.length ≤ 1000000) :
    Calls Try.prog 61 #[.pointer (some ⟨pm, 0, none⟩), .string ⟨s.toArray⟩] W (MEnd w0 W F pm b1 b2 (atomS st s) rs) := by
  obtain ⟨vw, va, h⟩ := h
  obtain ⟨Aa, ca, hva⟩ := own_sl h.ra
  obtain ⟨nn, hnn⟩ : ∃ nn, st.nm.length = nn := ⟨_, rfl⟩
  rw [hnn] at hva hl
  subst hva
  have HN := Lib.hid hnn
  have hsm : s.length ≤ maxLen := by unfold maxLen; omega
  have c4 := h.obj.cell 4
  by_cases hm : s ∈ st.nm
  · have hE : atomS st s = (st, 8 * st.nm.idxOf s + 1) := by unfold atomS; rw [if_pos hm]
    have hi : st.nm.idxOf s < st.nm.length := List.idxOf_lt_length_of_mem hm
    rw [hnn] at hi
    clear hnn
    rw [hE]
    obtain ⟨L, m1, m2, m3⟩ := h.am
    have hlk := m1.look hsm
    rw [m3 s, if_pos hm] at hlk
    simp only [Option.getD_some, Option.isSome_some] at hlk
    have HH := Lib.hid h
    clear h m1 m2 m3 hE hm
    generalize st.nm.idxOf s = k at *
    have HW := Lib.hid (hword_v k 1 (by omega) (by omega))
    go_enter Try.func61, Try.ntmps61
    go_wp2_with (go_at_call 62; refine (HW.out _).mono ?_; rintro e w' ⟨rfl, rfl⟩)
    go_ret
    exact ⟨by rw [leafW_small (by omega) (by omega)]; rfl, F, HH.out.back, fun k hk => .inl hk, Fr.refl _ _⟩
  · have hi : st.nm.idxOf s = st.nm.length := List.idxOf_eq_length hm
    have hE : atomS st s = (⟨st.ws, st.nm ++ [s], st.cs⟩, 8 * st.nm.length + 1) := by unfold atomS; rw [if_neg hm, hi]
    rw [hE]
    obtain ⟨w1, hup, hg1, ham1⟩ := am_add h.am hsm hm (by omega)
    obtain ⟨h1, f1⟩ := h.turnA hg1 ham1
    obtain ⟨L, m1, m2, m3⟩ := h.am
    have hlk := m1.look hsm
    rw [m3 s, if_neg hm] at hlk
    simp only [Option.getD_none, Option.isSome_none] at hlk
    have HH := Lib.hid h
    have H1 := Lib.hid h1
    have F1 := Lib.hid f1
    have c1 := h.obj.cell 1
    clear h m1 m2 m3 hE hm ham1 f1 hi hg1
    rw [hnn] at hup ⊢
    clear h1 hnn
    have HW := Lib.hid (hword_v nn 1 (by omega) (by omega))
    go_enter Try.func61, Try.ntmps61
    go_upto_region 5 with (fail)
    refine wp_world (fun V => (∃ va, MKp w0 V F pm b1 b2 vw va rs.1 st (st.nm ++ [s]) rs.2) ∧ Fr F W V) ⟨⟨_, H1.out⟩, F1.out⟩ ?_
    clear hup hlk c1 c4 H1 F1
    rintro V ⟨⟨va, h1⟩, f1⟩
    have H1 := Lib.hid h1
    have F1 := Lib.hid f1
    have c1 := h1.obj.cell 1
    have hz := h1.obj.frozen 1
    have hpl := h1.obj.lt
    have hr : V.ownsRow w0.heap.size 9 1 va nn (st.nm.map hv) := by have h9 := h1.ra; rw [HN.out] at h9; exact h9
    have HR := Lib.hid hr
    have hw0 := h1.old.size
    clear h1 f1 hr
    go_upto_region 6 with (at_builtin; go_loud (refine wpList_app htextsT rfl (.tmp 35) (.tmp 37) rfl w0.heap.size va nn (st.nm.map hv) rfl (own_far HR.out (below_alloc _ _)) (some ⟨V.heap.size, 0, none⟩) 1 1 [hv s] rfl rfl (blk_cs (Blk.new V _ _)) (hv_one [s]) (by unfold maxLen; omega) (by omega) (Nat.le_trans hw0 (below_alloc _ _).size) ?_); intro v3 w3 ho3 hg3 hat3; obtain ⟨A3, c3, rfl⟩ := own_sl ho3; have HO3 := Lib.hid ho3; have HG3 := Lib.hid hg3; have HA3 := Lib.hid hat3; have hc3 : w3.cell? ⟨pm, 1, none⟩ = some va := (by have h9 := (((H1.out.obj.alloc (.cells #[hv s] 9))).grown hg3 (fun e => (H1.out.apart.2.2.2.1 pm e.symm).1 rfl)).cell 1; exact h9); have hz3 : w3.frozen? ⟨pm, 1, none⟩ = false := (((H1.out.obj.alloc (.cells #[hv s] 9))).grown hg3 (fun e => (H1.out.apart.2.2.2.1 pm e.symm).1 rfl)).frozen 1; clear ho3 hg3 hat3)
    have hA := H1.out.keep (below_alloc V (.cells #[hv s] 9))
    obtain ⟨g1, g2⟩ := hA.setA (nm' := st.nm ++ [s]) (by simpa [HN.out] using HO3.out) HG3.out HA3.out
    have G2 := Lib.hid (F1.out.same ((Fr.alloc F V (.cells #[hv s] 9)).same g2))
    refine wp_world (fun V2 => (∃ F', MK w0 V2 F' pm b1 b2 ⟨st.ws, st.nm ++ [s], st.cs⟩ rs ∧ (∀ k, F' k → F k ∨ W.heap.size ≤ k)) ∧ Fr F W V2) ⟨⟨_, g1.back, fun k hk => ?_⟩, G2.out⟩ ?_
    · rcases hk with hk | hk
      · exact .inl hk
      · rcases HA3.out with h9 | h9
        · exact .inl (H1.out.fa k (by rw [← h9]; exact hk))
        · rw [h9] at hk
          obtain rfl := Option.some.inj hk
          exact .inr (Nat.le_trans F1.out.size (below_alloc V _).size)
    clear hA g1 g2 G2 HO3 HG3 HA3 hc3 hz3 H1 F1 c1 hz hpl HR hw0 HH
    rintro V2 ⟨h9, f9⟩
    have H9 := Lib.hid h9
    have F9 := Lib.hid f9
    clear h9 f9
    go_wp2_with (go_at_call 62; refine (HW.out _).mono ?_; rintro e w' ⟨rfl, rfl⟩)
    go_ret
    obtain ⟨F', k1, k2⟩ := H9.out
    exact ⟨by rw [leafW_small (by omega) (by omega)]; rfl, F', k1, k2, F9.out⟩

/-- The key of a cell, as a string. -/
theorem key_v (tag : Nat) (ht : tag < 8) {Bq nw cw : Nat} {Aw : Option Addr} {w : List Nat} (hw : V.ownsRow Bq 34 1 (.slice Aw nw cw) nw (w.map nv)) (h64 : W64 w) (hn : nw ≤ 1000000) {kn : Nat} (hk : (keyC tag w).length = kn) :
    Calls Try.prog 39 #[.slice (some ⟨V.heap.size, 0, none⟩) 1 1, .slice Aw nw cw] (V.alloc (.cells #[.int .u8 (tag : Int)] 5)) fun e w' => ∃ A c, e = .returned (.slice A kn c) ∧ (convert 51 9 (.slice A kn c)).run Try.prog w' = .ok (.string ⟨(keyC tag w).toArray⟩) w' ∧ Below V.heap.size V w' := by
  obtain ⟨hr, hl⟩ := own_rdk hw
  have hB := Blk.new V 5 #[.int .u8 (tag : Int)]
  have hu : (Value.int .u8 (tag : Int)) = bv (UInt8.ofNat tag) := by
    unfold bv
    congr 1
    have h1 : (UInt8.ofNat tag).toNat = tag := by rw [UInt8.toNat_ofNat']; exact Nat.mod_eq_of_lt (by omega)
    rw [h1]
  have hrd : Rd (V.alloc (.cells #[.int .u8 (tag : Int)] 5)) (some ⟨V.heap.size, 0, none⟩) [UInt8.ofNat tag] := .inr ⟨V.heap.size, 0, rfl, fun j hj => by
    simp only [List.length_singleton] at hj
    obtain rfl : j = 0 := by omega
    rw [show (0 + 0) = 0 from rfl, hB.cell, hu]
    rfl⟩
  refine (num_lay (some ⟨V.heap.size, 0, none⟩) Aw [UInt8.ofNat tag] w 1 1 nw cw _ rfl hl (Nat.le_refl _) (by omega) hrd (hr.below (below_alloc _ _)) h64 (by omega)).mono ?_
  rintro e w' ⟨v, rfl, hg, hb⟩
  obtain ⟨A, c, rfl, hrd2, hl2⟩ := hg.rd
  have hx : ([UInt8.ofNat tag] ++ laidL w).length = kn := hk
  rw [hx]
  exact ⟨A, c, rfl, run_str (P := Try.prog) Try.underlying51 Try.underlying5 Try.underlying9 w' A kn c (keyC tag w) hk hrd2, (below_alloc _ _).trans (hb.mono (below_alloc V _).size)⟩

theorem keyC_len {tag nw : Nat} {w : List Nat} (hl : w.length = nw) (hn : nw ≤ 1000000) : (keyC tag w).length ≤ 9000001 := by
  have := laidL_len w
  unfold keyC
  rw [List.length_cons]
  omega
set_option maxRecDepth 100000 in
set_option maxHeartbeats 1000000 in
theorem mcell_v (h : MK w0 W F pm b1 b2 st rs) (tag : Nat) (ht : tag < 8) {Bq nw cw : Nat} {Aw : Option Addr} {w : List Nat} (hw : W.ownsRow Bq 34 1 (.slice Aw nw cw) nw (w.map nv)) (h64 : W64 w) (hn : nw ≤ 1000000) (hl : st.ws.length ≤ 1000000) (hc : st.cs.length ≤ 1000000) :
    Calls Try.prog 63 #[.pointer (some ⟨pm, 0, none⟩), .int .i64 (tag : Int), .slice Aw nw cw] W (MEnd w0 W F pm b1 b2 (cellS st tag w) rs) := by
  have hwl : w.length = nw := (own_rdk hw).2
  have hkl := keyC_len (tag := tag) hwl hn
  obtain ⟨kn, hkn⟩ : ∃ kn, (keyC tag w).length = kn := ⟨_, rfl⟩
  have hksm : (keyC tag w).length ≤ maxLen := by unfold maxLen; omega
  have HK := Lib.hid (key_v (V := W) tag ht hw h64 hn hkn)
  have HH := Lib.hid h
  have HW9 := Lib.hid hw
  have HKS := Lib.hid hksm
  have H64 := Lib.hid h64
  have HWL := Lib.hid hwl
  clear h hw hkl hkn hksm h64 hwl
  obtain ⟨key, hkey⟩ : ∃ key, keyC tag w = key := ⟨_, rfl⟩
  rw [hkey] at HK
  have HKEY := Lib.hid hkey
  clear hkey
  go_enter Try.func63, Try.ntmps63
  go_upto_region 2 with (go_at_call 39; refine HK.out.mono ?_; rintro e w1 ⟨A1, c1, rfl, hst, hb1⟩)
  refine wp_world (fun V => MK w0 V F pm b1 b2 st rs ∧ V.ownsRow Bq 34 1 (.slice Aw nw cw) nw (w.map nv) ∧ Fr F W V) ⟨HH.out.keep hb1, own_far HW9.out hb1, Fr.of_below hb1 F⟩ ?_
  clear hst hb1 HK HH HW9
  rintro V ⟨⟨vw, va, h⟩, hw, hf⟩
  obtain ⟨Aa, ca, hva⟩ := own_sl h.rw
  obtain ⟨nn, hnn⟩ : ∃ nn, st.ws.length = nn := ⟨_, rfl⟩
  rw [hnn] at hva hl
  subst hva
  have c3 := h.obj.cell 3
  have HF := Lib.hid hf
  cases hfc : findC st.cs tag w with
  | some a =>
    have hE : cellS st tag w = (st, 8 * a + tag) := by unfold cellS; rw [hfc]
    have HE := Lib.hid hE
    obtain ⟨L, m1, m2, m3⟩ := h.cm
    have hlk := m1.look HKS.out
    rw [m3 tag w ht H64.out, hfc, HKEY.out] at hlk
    simp only [Option.map_some, Option.getD_some, Option.isSome_some] at hlk
    have HH := Lib.hid h
    clear h hw hf m1 m2 m3 hE hfc hnn
    obtain ⟨x, hx⟩ : ∃ x : Int, ((8 * a + tag : Nat) : Int) = x := ⟨_, rfl⟩
    rw [hx] at hlk
    have HX := Lib.hid hx
    clear hx
    go_wp2
    go_ret
    rw [HE.out]
    exact ⟨by first | rfl | (rw [← HX.out]; rfl), F, HH.out.back, fun k hk => .inl hk, HF.out⟩
  | none =>
    have hE : cellS st tag w = (⟨st.ws ++ w, st.nm, st.cs ++ [(tag, w, nn)]⟩, 8 * nn + tag) := by unfold cellS; rw [hfc, ← hnn]
    have HE := Lib.hid hE
    obtain ⟨L, m1, m2, m3⟩ := h.cm
    have hlk := m1.look HKS.out
    rw [m3 tag w ht H64.out, hfc, HKEY.out] at hlk
    simp only [Option.map_none, Option.getD_none, Option.isSome_none] at hlk
    have c0 := h.obj.cell 0
    have HH := Lib.hid h
    have HWR := Lib.hid hw
    have HFC := Lib.hid hfc
    have HN := Lib.hid hnn
    clear h hw hf m1 m2 m3 hE hfc hnn
    have HWD := Lib.hid (hword_v nn tag (by omega) ht)
    go_upto_region 6 with (go_at_call 62; refine (HWD.out _).mono ?_; rintro e w' ⟨rfl, rfl⟩)
    refine wp_world (fun V => (∃ va', MKp w0 V F pm b1 b2 va' va rs.1 st st.nm rs.2) ∧ V.ownsRow Bq 34 1 (.slice Aw nw cw) nw (w.map nv) ∧ Fr F W V) ⟨⟨_, HH.out⟩, HWR.out, HF.out⟩ ?_
    clear hlk c0 c3 HH HWR HF HWD
    rintro V ⟨⟨vw, h1⟩, hw, f1⟩
    have H1 := Lib.hid h1
    have F1 := Lib.hid f1
    have c0 := h1.obj.cell 0
    have hr : V.ownsRow w0.heap.size 34 1 vw nn (st.ws.map nv) := by have h9 := h1.rw; rw [HN.out] at h9; exact h9
    have HR := Lib.hid hr
    have HWR := Lib.hid hw
    have hw0 := h1.old.size
    clear h1 f1 hr hw
    go_upto_region 7 with (at_builtin; refine wpList_app uintsT rfl (.tmp 42) (.tmp 43) rfl w0.heap.size vw nn (st.ws.map nv) rfl HR.out Aw nw cw (w.map nv) rfl (by rw [List.length_map, HWL.out, Nat.mul_one]) (own_cs HWR.out) (nv_one w) (by unfold maxLen; omega) (by omega) hw0 ?_; intro v3 w3 ho3 hg3 hat3; obtain ⟨A3, c3, rfl⟩ := own_sl ho3; have HO3 := Lib.hid ho3; have HG3 := Lib.hid hg3; have HA3 := Lib.hid hat3; have hc3 : w3.cell? ⟨pm, 0, none⟩ = some vw := (by have h9 := (H1.out.obj.grown hg3 (fun e => (H1.out.apart.2.2.1 pm e.symm).1 rfl)).cell 0; exact h9); have hz3 : w3.frozen? ⟨pm, 0, none⟩ = false := (H1.out.obj.grown hg3 (fun e => (H1.out.apart.2.2.1 pm e.symm).1 rfl)).frozen 0; clear ho3 hg3 hat3)
    obtain ⟨g1, g2⟩ := H1.out.setW (ws' := st.ws ++ w) (by simpa [HN.out, HWL.out] using HO3.out) HG3.out HA3.out
    have G2 := Lib.hid (F1.out.same g2)
    refine wp_world (fun V2 => (∃ F' v9, MKp w0 V2 F' pm b1 b2 v9 va rs.1 ⟨st.ws ++ w, st.nm, st.cs⟩ st.nm rs.2 ∧ (∀ k, F' k → F k ∨ W.heap.size ≤ k)) ∧ Fr F W V2) ⟨⟨_, _, g1, fun k hk => ?_⟩, G2.out⟩ ?_
    · rcases hk with hk | hk
      · exact .inl hk
      · rcases HA3.out with h9 | h9
        · exact .inl (H1.out.fw k (by rw [← h9]; exact hk))
        · rw [h9] at hk
          obtain rfl := Option.some.inj hk
          exact .inr F1.out.size
    clear g1 g2 G2 HO3 HG3 HA3 hc3 hz3 H1 F1 c0 HR hw0 HWR
    rintro V2 ⟨⟨F', v9, h9, s9⟩, f9⟩
    obtain ⟨w4, hup, hg4, hcm4⟩ := cm_add (at_ := nn) h9.cm ht H64.out HKS.out HFC.out hc (by omega)
    rw [HKEY.out] at hup
    have c3 := h9.obj.cell 3
    obtain ⟨g1, g2⟩ := h9.turnC hg4 hcm4
    have G1 := Lib.hid g1
    have G2 := Lib.hid g2
    have S9 := Lib.hid s9
    have F9 := Lib.hid f9
    clear h9 s9 f9 hg4 hcm4 g1 g2
    have hlw : leafW nn tag = 8 * nn + tag := leafW_small (by omega) ht
    rw [hlw]
    clear hlw
    obtain ⟨x, hx⟩ : ∃ x : Int, ((8 * nn + tag : Nat) : Int) = x := ⟨_, rfl⟩
    rw [hx] at hup ⊢
    have HX := Lib.hid hx
    clear hx
    go_wp2
    go_ret
    rw [HE.out]
    exact ⟨by first | rfl | (rw [← HX.out]; rfl), F', G1.out.back, S9.out, F9.out.trans G2.out (fun k hk h9 => by rcases S9.out k h9 with h9 | h9; exact h9; omega)⟩
end
end
section
open Go.RowKit Go.Lib
set_option linter.unusedVariables false

theorem zc_size (k : Nat) : (Builtin.zeroCells (Value.int .u64 0).cells k).size = k := by simp [Builtin.zeroCells, Value.cells]
theorem splice_two (vs xs R : List Value) : (vs ++ R.drop vs.length).toArray.toList.take vs.length ++ xs ++ (vs ++ R.drop vs.length).toArray.toList.drop (vs.length + xs.length) = vs ++ xs ++ R.drop (xs.length + vs.length) := by
  simp [List.drop_append, Nat.add_comm]
section
variable {W W' : World}
set_option maxRecDepth 100000 in
set_option maxHeartbeats 4000000 in
/-- Insert at the head. -/
theorem insert_v {B n c g m : Nat} {A : Option Addr} {xs vs : List Value} (hs : W.ownsRow B 34 1 (.slice A n c) n xs) (hv : Blk W g 34 vs.toArray) (hvl : vs.length = m) (hm : 0 < m) (h1x : ∀ u ∈ xs, u.oneCell' = true) (h1v : ∀ u ∈ vs, u.oneCell' = true)
    (hne : ∀ k, (Value.slice A n c).ownBlock = some k → k ≠ g) (hn : n + m ≤ 1000000) (hB : B ≤ W.heap.size) :
    Calls Try.prog 64 #[.slice A n c, .int .i64 0, .slice (some ⟨g, 0, none⟩) m m] W fun e W' => ∃ A' c', e = .returned (.slice A' (n + m) c') ∧ W'.ownsRow B 34 1 (.slice A' (n + m) c') (n + m) (vs ++ xs) ∧ W.grownBy W' (Value.slice A n c).ownBlock := by
  have hxl : xs.length = n := by have := hs.1; simpa using this
  have hz1 : ¬ ((m : Int) = 0) := by omega
  by_cases h0 : n = 0
  · subst h0
    obtain rfl : xs = [] := List.eq_nil_of_length_eq_zero hxl
    have HS := Lib.hid hs
    have HV := Lib.hid hv
    have HVL := Lib.hid hvl
    have H1V := Lib.hid h1v
    clear hs hv hvl h1v h1x hxl hne
    go_enter Try.func64, Try.ntmps64
    go_wp2_with (at_builtin; (refine wpList_app uintsT rfl (.tmp 23) (.tmp 24) rfl B (.slice A 0 c) 0 [] rfl HS.out (some ⟨g, 0, none⟩) m m vs rfl (by rw [HVL.out, Nat.mul_one]) (blk_cs HV.out) H1V.out (by unfold maxLen; omega) (by omega) hB ?_); intro v3 w3 ho3 hg3 hat3; obtain ⟨A3, c3, rfl⟩ := own_sl ho3; have HO3 := Lib.hid ho3; have HG3 := Lib.hid hg3; clear ho3 hg3 hat3)
    go_ret
    exact ⟨A3, c3, by simp, by simpa using HO3.out, HG3.out⟩
  · obtain ⟨b, cur, rfl, hBb, hcur, hnc, hcm, hcs, htk⟩ : ∃ b cur, A = some ⟨b, 0, none⟩ ∧ B ≤ b ∧ W.heap[b]? = some (.cells cur 34 (0, 0)) ∧ n ≤ c ∧ c ≤ maxLen ∧ cur.size = c ∧ cur.toList.take n = xs := by
      rcases hs.2 with ⟨_, h9⟩ | ⟨b, cap, cur, h1, h2, h3, h4, h5, h6, h7⟩
      · exact absurd h9 h0
      · obtain ⟨rfl, _, rfl⟩ := Value.slice.inj h1
        exact ⟨b, cur, rfl, h2, h3, h4, h5, by simpa using h6, by simpa using h7⟩
    have hgb : b ≠ g := hne b rfl
    have hbl : b < W.heap.size := (Array.getElem?_eq_some_iff.1 hcur).1
    have hz2 : ¬ ((0 : Int) = (n : Int)) := by omega
    have hkk : (n : Int) + (m : Int) = ((n + m : Nat) : Int) := by omega
    obtain ⟨i0, hi0, hz0, hzs, hzb⟩ := info_parts (uintsT).info
    have hsz : (Try.prog.info? 34).map (·.size) = some 1 := by rw [hi0]; simp [hzs]
    have hcell : ∀ j v, xs[j]? = some v → W.cell? ⟨b, j, none⟩ = some v := fun j v hj => by
      rw [cell_of_row W b j cur 34 (0, 0) hcur]
      rw [← htk, List.getElem?_take] at hj
      split at hj
      · simpa using hj
      · cases hj
    have hnl : n ≤ 1000000 := by omega
    have hsrcv : ∀ V : World, Blk V g 34 vs.toArray → ∀ j u, vs[j]? = some u → V.cell? ((⟨g, 0, none⟩ : Addr).add j) = some u := fun V hB j u hj => by
      rw [Addr.add_lit, Nat.zero_add, hB.cell]
      simpa using hj
    have UT := Try.underlying26
    by_cases hroom : c < n + m
    · have hgc : n + m ≤ grownCap W (n + m) c 34 := grownCap_ge W _ _ _
      have hgm : grownCap W (n + m) c 34 ≤ maxLen := grownCap_le_maxLen W _ _ _ (by unfold maxLen; omega)
      have hrz : ∀ ty, (Builtin.append_ #[26, 3] ty #[.slice (some ⟨b, 0, none⟩) 0 c, .int .i64 ((n : Int) + (m : Int))]).run Try.prog W =
          .ok (.slice (some ⟨W.heap.size, 0, none⟩) (n + m) (grownCap W (n + m) c 34)) (W.drew.alloc (.cells (Builtin.zeroCells (Value.int .u64 0).cells (n + m) ++ Builtin.zeroCells (Value.int .u64 0).cells (grownCap W (n + m) c 34 - (n + m))) 34)) := fun ty => by
        have h := Lib.run_append_grow_zeros W 26 3 ty 34 i0 _ .i64 .i64 Try.underlying26 Try.underlying3 hi0 hz0 (some ⟨b, 0, none⟩) 0 c [] (by rw [hzs]; exact run_firstCells_some W.drew 1 0 ⟨b, 0, none⟩ 0 c [] rfl (fun j v hj => by simp at hj)) (n + m) (by omega) (by omega) (by omega) (by omega) (by rw [hzb]; omega) (by rw [hzb]; exact growslice_fits (by omega) (by omega))
        rw [hkk]
        simpa using h
      obtain ⟨G, hG⟩ : ∃ G, G = grownCap W (n + m) c 34 := ⟨_, rfl⟩
      rw [← hG] at hrz hgc hgm
      obtain ⟨ROW, hROW⟩ : ∃ ROW, ROW = Builtin.zeroCells (Value.int .u64 0).cells (n + m) ++ Builtin.zeroCells (Value.int .u64 0).cells (G - (n + m)) := ⟨_, rfl⟩
      rw [← hROW] at hrz
      have hRS : ROW.size = G := by rw [hROW, Array.size_append, zc_size, zc_size]; omega
      have HGm := Lib.hid hgm
      have hG63 : G ≤ 9223372036854775807 := by unfold maxLen at hgm; exact hgm
      clear hROW hG hgm
      obtain ⟨g2, hg2⟩ : ∃ g2, g2 = W.heap.size := ⟨_, rfl⟩
      have hcpA : ∀ V : World, Blk V g2 34 ROW → Blk V g 34 vs.toArray → ∀ ty dl dc, m ≤ dl → (Builtin.copy_ #[26, 26] ty #[.slice (some ⟨g2, 0, none⟩) dl dc, .slice (some ⟨g, 0, none⟩) m m]).run Try.prog V = .ok (goInt vs.length) (V.setRow g2 (vs ++ ROW.toList.drop m).toArray) := fun V hB hBg ty dl dc hd => by
        have h := run_copy_row (P := Try.prog) V 26 26 ty 34 g2 0 dl dc ⟨g, 0, none⟩ m m ROW 34 vs UT hsz hB (by rw [hvl]; simp only [Nat.min_def]; split <;> omega) (hsrcv V hBg) (by omega) h1v
        rw [hvl] at h ⊢
        simpa using h
      have hcpB : ∀ V : World, Blk V g2 34 (vs ++ ROW.toList.drop m).toArray → (∀ j v, xs[j]? = some v → V.cell? ⟨b, j, none⟩ = some v) → ∀ ty dc sc, (Builtin.copy_ #[26, 26] ty #[.slice (some ⟨g2, m, none⟩) n dc, .slice (some ⟨b, 0, none⟩) n sc]).run Try.prog V = .ok (goInt xs.length) (V.setRow g2 (vs ++ xs ++ ROW.toList.drop (n + m)).toArray) := fun V hB hc9 ty dc sc => by
        have h := run_copy_row (P := Try.prog) V 26 26 ty 34 g2 m n dc ⟨b, 0, none⟩ n sc _ 34 xs UT hsz hB (by rw [hxl]; simp) (fun j v hj => by rw [Addr.add_lit, Nat.zero_add]; exact hc9 j v hj) (by simp [hvl, hxl]; omega) h1x
        rw [h, hxl]
        have h9 := splice_two vs xs ROW.toList
        rw [hvl, hxl] at h9
        rw [h9]
      have HV := Lib.hid hv
      have HcA := Lib.hid hcpA
      have HcB := Lib.hid hcpB
      have HCE := Lib.hid hcell
      have HVL := Lib.hid hvl
      have HXL := Lib.hid hxl
      have hlt : b < g2 := by omega
      have hrz' := hrz
      rw [← hg2] at hrz'
      have HG2 := Lib.hid hg2
      have hGm : ¬ G = m := by omega
      have hc0 : ¬ c = 0 := by omega
      have hz3 : (c : Int) < (n : Int) + (m : Int) := by omega
      have HRS := Lib.hid hRS
      clear hkk hcpA hcpB hcell hvl hxl hv hs hcur htk hcs hne hsrcv hrz hg2 h1x h1v hRS
      go_enter Try.func64, Try.ntmps64
      go_upto_region 10 with (at_builtin; (refine Lib.wpList_append_run _ rfl _ _ _ _ rfl _ _ rfl rfl _ _ (hrz' _) ?_))

      refine wp_world (fun V => Blk V g2 34 ROW ∧ Below W.heap.size W V) ⟨by rw [HG2.out]; first | exact Blk.new W.drew _ _ | exact Blk.new W _ _, by first | exact (below_alloc W _).drew | exact below_alloc W.drew _⟩ ?_
      clear hrz'
      rintro V1 ⟨hk1, hb1⟩
      have HK1 := Lib.hid hk1
      have HB1 := Lib.hid hb1
      have hcA : ∀ ty, (Builtin.copy_ #[26, 26] ty #[.slice (some ⟨g2, 0, none⟩) (n + m) G, .slice (some ⟨g, 0, none⟩) m m]).run Try.prog V1 = .ok (goInt vs.length) (V1.setRow g2 (vs ++ ROW.toList.drop m).toArray) := fun ty => HcA.out V1 hk1 (HV.out.keep hb1) ty _ _ (by omega)
      clear hk1 hb1
      go_upto_region 11 with (fail)
      refine wp_world (fun V => Blk V g2 34 (vs ++ ROW.toList.drop m).toArray ∧ Below W.heap.size W V) ⟨(grown_setRow HK1.out _).1, HB1.out.grown (grown_setRow HK1.out (vs ++ ROW.toList.drop m).toArray).2.1 HB1.out.size (fun k hk => by have := Option.some.inj hk; have := HG2.out; omega)⟩ ?_
      clear HK1 HB1 hcA
      rintro V2 ⟨hk2, hb2⟩
      have HK2 := Lib.hid hk2
      have HB2 := Lib.hid hb2
      obtain ⟨R3, hR3⟩ : ∃ R3 : Array Value, R3 = (vs ++ xs ++ ROW.toList.drop (n + m)).toArray := ⟨_, rfl⟩
      have hcp : ∀ ty dc sc, (Builtin.copy_ #[26, 26] ty #[.slice (some ⟨g2, m, none⟩) n dc, .slice (some ⟨b, 0, none⟩) n sc]).run Try.prog V2.drew = .ok (goInt xs.length) (V2.drew.setRow g2 R3) := by
        rw [hR3]
        exact HcB.out V2.drew hk2 (fun j v hj => (hb2.cell hbl).trans (HCE.out j v hj))
      have mixed : Try.prog.follows .mixedOrders = true := by kernel_rfl
      have hq1 : (0 : Int) ≤ (m : Int) := by omega
      have hq2 : (m : Int) ≤ (n : Int) + (m : Int) := by omega
      have hq3 : m ≤ n + m := by omega
      have hq4 : ¬ m = G := by omega
      have hq5 : (0 : Int) ≤ (n : Int) := by omega
      have hq6 : n + m - m = n := by omega
      have hq7 : IntKind.i64.wrap (m : Int) = (m : Int) := by rw [IntKind.wrap_i64]; omega
      have hFIN : Hid ((V2.drew.setRow g2 R3).ownsRow B 34 1 (.slice (some ⟨g2, 0, none⟩) (n + m) G) (n + m) (vs ++ xs) ∧ W.grownBy (V2.drew.setRow g2 R3) (some b)) := by
        obtain ⟨y1, y2, y3⟩ := grown_setRow (w := V2.drew) hk2 R3
        rw [hR3] at y1 y2 ⊢
        have hl9 : (vs ++ xs).length = n + m := by rw [List.length_append, HVL.out, HXL.out, Nat.add_comm]
        refine ⟨⟨by rw [hl9, Nat.mul_one], .inr ⟨g2, G, _, rfl, by omega, y1, hgc, HGm.out, ?_, ?_⟩⟩, grown_of_below (hb2.drew.grown y2 hb2.size (fun k hk => by have := Option.some.inj hk; have := HG2.out; omega)) _⟩
        · have := HRS.out
          simp only [List.size_toArray, List.length_append, List.length_drop, Array.length_toList, Nat.mul_one]
          simp only [List.length_append] at hl9
          omega
        · rw [List.toList_toArray, Nat.mul_one, List.take_append_of_le_length (by omega), List.take_of_length_le (by omega)]
      clear hk2 hb2 hR3
      go_region_law_o ((refine step_copy_runI rfl _ _ 26 26 rfl _ _ (by simp [Act.eval, Act.put]) (by simp [Act.eval, Act.put]) (hcp _ _ _) ?_))
      go_wp2
      go_ret
      exact ⟨_, _, rfl, hFIN.out⟩
    · have hrm : n + m ≤ c := by omega
      have hc63 : c ≤ 9223372036854775807 := by unfold maxLen at hcm; exact hcm
      have hov : ∀ lb cb, (callFunc 90 #[.slice (some ⟨g, 0, none⟩) m m, .slice (some ⟨b, m, none⟩) lb cb]).run Try.prog W = .ok (.value (.bool false)) W := fun lb cb => by
        rw [run_callFunc_extern Try.func90 (by kernel_rfl) (by kernel_rfl) (by kernel_rfl) (e := Extern.SlicesOverlaps.overlaps #[26, 26] #[4]) (by kernel_rfl),
          Lib.run_overlaps_apart W 26 4 34 UT 1 (fun w => by kernel_rfl) ⟨g, 0, none⟩ ⟨b, m, none⟩ m m lb cb (Ne.symm hgb) 34 34 vs.toArray.size cur.size (by unfold World.shape?; rw [show W.heap[g]? = _ from hv]) (by unfold World.shape?; rw [hcur]) (by omega) (hv.frozen 0) (hv.frozen _)]
        rfl
      obtain ⟨R1, hR1⟩ : ∃ R1 : Array Value, R1 = (cur.toList.take m ++ xs ++ cur.toList.drop (m + n)).toArray := ⟨_, rfl⟩
      obtain ⟨R2, hR2⟩ : ∃ R2 : Array Value, R2 = (vs ++ xs ++ cur.toList.drop (n + m)).toArray := ⟨_, rfl⟩
      have hcl : cur.toList.length = c := by rw [Array.length_toList]; exact hcs
      have hcp1 : ∀ ty dc sc, (Builtin.copy_ #[26, 26] ty #[.slice (some ⟨b, m, none⟩) n dc, .slice (some ⟨b, 0, none⟩) (n + m) sc]).run Try.prog W.drew = .ok (goInt xs.length) (W.drew.setRow b R1) := fun ty dc sc => by
        have h := run_copy_row (P := Try.prog) W.drew 26 26 ty 34 b m n dc ⟨b, 0, none⟩ (n + m) sc cur 34 xs UT hsz hcur (by rw [hxl]; simp only [Nat.min_def]; split <;> omega) (fun j v hj => by rw [Addr.add_lit, Nat.zero_add]; exact hcell j v hj) (by omega) h1x
        rw [h, hR1, hxl]
      have hR1s : R1.size = c := by rw [hR1]; simp [hxl]; omega
      have hcp2 : ∀ V : World, Blk V b 34 R1 → Blk V g 34 vs.toArray → ∀ ty, (Builtin.copy_ #[26, 26] ty #[.slice (some ⟨b, 0, none⟩) (n + m) c, .slice (some ⟨g, 0, none⟩) m m]).run Try.prog V = .ok (goInt vs.length) (V.setRow b R2) := fun V hB hBg ty => by
        have h := run_copy_row (P := Try.prog) V 26 26 ty 34 b 0 (n + m) c ⟨g, 0, none⟩ m m R1 34 vs UT hsz hB (by rw [hvl]; simp only [Nat.min_def]; split <;> omega) (hsrcv V hBg) (by omega) h1v
        rw [h, hR2]
        congr 3
        have e9 : (cur.toList.take m).length = m := by rw [List.length_take]; omega
        rw [hR1, List.toList_toArray, List.take_zero, List.nil_append, Nat.zero_add, hvl, List.append_assoc (cur.toList.take m), List.drop_append_of_le_length (by omega), List.drop_of_length_le (by omega), List.nil_append, Nat.add_comm m n, List.append_assoc]
      obtain ⟨y1, y2, y3⟩ := grown_setRow (w := W.drew) hcur R1
      have hg1 : Blk (W.drew.setRow b R1) g 34 vs.toArray := Blk.grown (w := W.drew) hv y2 (fun e => hgb (Option.some.inj e).symm)
      have hFIN : Hid ((((W.drew.setRow b R1).setRow b R2)).ownsRow B 34 1 (.slice (some ⟨b, 0, none⟩) (n + m) c) (n + m) (vs ++ xs) ∧ W.grownBy ((W.drew.setRow b R1).setRow b R2) (some b)) := by
        obtain ⟨z1, z2, z3⟩ := grown_setRow y1 R2
        have hl9 : (vs ++ xs).length = n + m := by rw [List.length_append, hvl, hxl, Nat.add_comm]
        refine ⟨⟨by rw [hl9, Nat.mul_one], .inr ⟨b, c, R2, rfl, hBb, z1, by omega, hcm, ?_, ?_⟩⟩, ?_⟩
        · rw [hR2]
          simp only [List.size_toArray, List.length_append, List.length_drop, Nat.mul_one]
          simp only [List.length_append] at hl9
          omega
        · rw [hR2, List.toList_toArray, Nat.mul_one, List.take_append_of_le_length (by omega), List.take_of_length_le (by omega)]
        · exact (show W.grownBy (W.drew.setRow b R1) (some b) from ⟨y2.os, y2.tape, y2.output, y2.size, y2.block⟩).trans z2
      have hcp2' := hcp2 (W.drew.setRow b R1) y1 hg1
      have hq2 : (m : Int) ≤ (n : Int) + (m : Int) := by omega
      have hq1 : (0 : Int) ≤ (m : Int) := by omega
      have hq4 : ¬ c = m := by omega
      have hq5 : (0 : Int) ≤ (n : Int) + (m : Int) := by omega
      have hq6 : n + m - m = n := by omega
      have hq7 : (n : Int) + (m : Int) ≤ (c : Int) := by omega
      have hq8 : ¬ c = 0 := by omega
      have mixed : Try.prog.follows .mixedOrders = true := by kernel_rfl
      clear hkk hcp2 y1 y2 y3 hg1 hR1s hcl hR1 hR2 hcell hvl hxl hv hs hcur htk hcs hne hsrcv h1x h1v
      go_enter Try.func64, Try.ntmps64
      go_wp2_with (simp only [hov])
      have hq9 : IntKind.i64.wrap (m : Int) = (m : Int) := by rw [IntKind.wrap_i64]; omega
      go_region_law_o ((refine step_copy_runI rfl _ _ 26 26 rfl _ _ (by simp [Act.eval, Act.put]) (by simp [Act.eval, Act.put]) (hcp1 _ _ _) ?_))
      go_wp2
      go_ret
      exact ⟨_, _, rfl, hFIN.out⟩
end
end
end Go.Proofs.Ytefnjplfemgibaa
