/- Heap (layer 9): the walks of the maker's atom and cell. -/
import Derived.Test.YtefnjplfemgibaaHpA
namespace Go.Proofs.Ytefnjplfemgibaa
open Go.RowKit Go.Maps Go.WideMaps
set_option linter.unusedVariables false

theorem leafW_small {n tag : Nat} (hn : n ≤ 10000000) (ht : tag < 8) : leafW n tag = 8 * n + tag := by unfold leafW; omega
theorem own_rdk {W : World} {base e n : Nat} {A : Option Addr} {c : Nat} {w : List Nat} (h : W.ownsRow base e 1 (.slice A n c) n (w.map nv)) : RdK .u64 W A (w.map (fun (x : Nat) => (x : Int))) ∧ w.length = n := by
  have hl : w.length = n := by have := h.1; simpa using this
  refine ⟨?_, hl⟩
  rcases h.2 with ⟨_, rfl⟩ | ⟨g, cap, cur, hv, _⟩
  · exact .inl (by rw [List.eq_nil_of_length_eq_zero hl]; rfl)
  · obtain ⟨rfl, _, rfl⟩ := Value.slice.inj hv
    refine .inr ⟨g, 0, rfl, fun j hj => ?_⟩
    have hj' : j < w.length := by simpa using hj
    have hc := h.cells (g := g) rfl j (nv (w[j]'hj')) (by simp [hj'])
    rw [Addr.add_lit] at hc
    rw [hc]
    simp [nv]
section
variable {w0 W V V' : World} {F : Nat → Prop} {pm b1 b2 : Nat} {vw va : Value} {st : HSt} {na : List (List UInt8)} {rs : Value × List Nat}
theorem MKp.back (h : MKp w0 W F pm b1 b2 vw va rs.1 st st.nm rs.2) : MK w0 W F pm b1 b2 st rs := ⟨_, _, h⟩
set_option maxRecDepth 100000 in
set_option maxHeartbeats 1000000 in
theorem matom_v (h : MK w0 W F pm b1 b2 st rs) (s : List UInt8) (hs : s.length ≤ 1000000) (hl : st.nm.length ≤ 1000000) :
    Calls Try.prog 61 #[.pointer (some ⟨pm, 0, none⟩), .string ⟨s.toArray⟩] W (MEnd w0 W F pm b1 b2 (atomS st s) rs) := by
  obtain ⟨vw, va, h⟩ := h
  obtain ⟨Aa, ca, hva⟩ := own_sl h.ra
  obtain ⟨nn, hnn⟩ : ∃ nn, st.nm.length = nn := ⟨_, rfl⟩
  rw [hnn] at hva hl
  subst hva
  have HN := Lib.hid hnn
  have hsm : s.length ≤ maxLen := by unfold maxLen; omega
  have c4 := h.obj.cell 4
  by_cases hm : s ∈ st.nm
  · have hE : atomS st s = (st, 8 * st.nm.idxOf s + 1) := by unfold atomS; rw [if_pos hm]
    have hi : st.nm.idxOf s < st.nm.length := List.idxOf_lt_length_of_mem hm
    rw [hnn] at hi
    clear hnn
    rw [hE]
    obtain ⟨L, m1, m2, m3⟩ := h.am
    have hlk := m1.look hsm
    rw [m3 s, if_pos hm] at hlk
    simp only [Option.getD_some, Option.isSome_some] at hlk
    have HH := Lib.hid h
    clear h m1 m2 m3 hE hm
    generalize st.nm.idxOf s = k at *
    have HW := Lib.hid (hword_v k 1 (by omega) (by omega))
    go_enter Try.func61, Try.ntmps61
    go_wp2_with (go_at_call 62; refine (HW.out _).mono ?_; rintro e w' ⟨rfl, rfl⟩)
    go_ret
    exact ⟨by rw [leafW_small (by omega) (by omega)]; rfl, F, HH.out.back, fun k hk => .inl hk, Fr.refl _ _⟩
  · have hi : st.nm.idxOf s = st.nm.length := List.idxOf_eq_length hm
    have hE : atomS st s = (⟨st.ws, st.nm ++ [s], st.cs⟩, 8 * st.nm.length + 1) := by unfold atomS; rw [if_neg hm, hi]
    rw [hE]
    obtain ⟨w1, hup, hg1, ham1⟩ := am_add h.am hsm hm (by omega)
    obtain ⟨h1, f1⟩ := h.turnA hg1 ham1
    obtain ⟨L, m1, m2, m3⟩ := h.am
    have hlk := m1.look hsm
    rw [m3 s, if_neg hm] at hlk
    simp only [Option.getD_none, Option.isSome_none] at hlk
    have HH := Lib.hid h
    have H1 := Lib.hid h1
    have F1 := Lib.hid f1
    have c1 := h.obj.cell 1
    clear h m1 m2 m3 hE hm ham1 f1 hi hg1
    rw [hnn] at hup ⊢
    clear h1 hnn
    have HW := Lib.hid (hword_v nn 1 (by omega) (by omega))
    go_enter Try.func61, Try.ntmps61
    go_upto_region 5 with (fail)
    refine wp_world (fun V => (∃ va, MKp w0 V F pm b1 b2 vw va rs.1 st (st.nm ++ [s]) rs.2) ∧ Fr F W V) ⟨⟨_, H1.out⟩, F1.out⟩ ?_
    clear hup hlk c1 c4 H1 F1
    rintro V ⟨⟨va, h1⟩, f1⟩
    have H1 := Lib.hid h1
    have F1 := Lib.hid f1
    have c1 := h1.obj.cell 1
    have hz := h1.obj.frozen 1
    have hpl := h1.obj.lt
    have hr : V.ownsRow w0.heap.size 9 1 va nn (st.nm.map hv) := by have h9 := h1.ra; rw [HN.out] at h9; exact h9
    have HR := Lib.hid hr
    have hw0 := h1.old.size
    clear h1 f1 hr
    go_upto_region 6 with (at_builtin; go_loud (refine wpList_app htextsT rfl (.tmp 35) (.tmp 37) rfl w0.heap.size va nn (st.nm.map hv) rfl (own_far HR.out (below_alloc _ _)) (some ⟨V.heap.size, 0, none⟩) 1 1 [hv s] rfl rfl (blk_cs (Blk.new V _ _)) (hv_one [s]) (by unfold maxLen; omega) (by omega) (Nat.le_trans hw0 (below_alloc _ _).size) ?_); intro v3 w3 ho3 hg3 hat3; obtain ⟨A3, c3, rfl⟩ := own_sl ho3; have HO3 := Lib.hid ho3; have HG3 := Lib.hid hg3; have HA3 := Lib.hid hat3; have hc3 : w3.cell? ⟨pm, 1, none⟩ = some va := (by have h9 := (((H1.out.obj.alloc (.cells #[hv s] 9))).grown hg3 (fun e => (H1.out.apart.2.2.2.1 pm e.symm).1 rfl)).cell 1; exact h9); have hz3 : w3.frozen? ⟨pm, 1, none⟩ = false := (((H1.out.obj.alloc (.cells #[hv s] 9))).grown hg3 (fun e => (H1.out.apart.2.2.2.1 pm e.symm).1 rfl)).frozen 1; clear ho3 hg3 hat3)
    have hA := H1.out.keep (below_alloc V (.cells #[hv s] 9))
    obtain ⟨g1, g2⟩ := hA.setA (nm' := st.nm ++ [s]) (by simpa [HN.out] using HO3.out) HG3.out HA3.out
    have G2 := Lib.hid (F1.out.same ((Fr.alloc F V (.cells #[hv s] 9)).same g2))
    refine wp_world (fun V2 => (∃ F', MK w0 V2 F' pm b1 b2 ⟨st.ws, st.nm ++ [s], st.cs⟩ rs ∧ (∀ k, F' k → F k ∨ W.heap.size ≤ k)) ∧ Fr F W V2) ⟨⟨_, g1.back, fun k hk => ?_⟩, G2.out⟩ ?_
    · rcases hk with hk | hk
      · exact .inl hk
      · rcases HA3.out with h9 | h9
        · exact .inl (H1.out.fa k (by rw [← h9]; exact hk))
        · rw [h9] at hk
          obtain rfl := Option.some.inj hk
          exact .inr (Nat.le_trans F1.out.size (below_alloc V _).size)
    clear hA g1 g2 G2 HO3 HG3 HA3 hc3 hz3 H1 F1 c1 hz hpl HR hw0 HH
    rintro V2 ⟨h9, f9⟩
    have H9 := Lib.hid h9
    have F9 := Lib.hid f9
    clear h9 f9
    go_wp2_with (go_at_call 62; refine (HW.out _).mono ?_; rintro e w' ⟨rfl, rfl⟩)
    go_ret
    obtain ⟨F', k1, k2⟩ := H9.out
    exact ⟨by rw [leafW_small (by omega) (by omega)]; rfl, F', k1, k2, F9.out⟩

/-- The key of a cell, as a string. -/
theorem key_v (tag : Nat) (ht : tag < 8) {Bq nw cw : Nat} {Aw : Option Addr} {w : List Nat} (hw : V.ownsRow Bq 34 1 (.slice Aw nw cw) nw (w.map nv)) (h64 : W64 w) (hn : nw ≤ 1000000) {kn : Nat} (hk : (keyC tag w).length = kn) :
    Calls Try.prog 39 #[.slice (some ⟨V.heap.size, 0, none⟩) 1 1, .slice Aw nw cw] (V.alloc (.cells #[.int .u8 (tag : Int)] 5)) fun e w' => ∃ A c, e = .returned (.slice A kn c) ∧ (convert 51 9 (.slice A kn c)).run Try.prog w' = .ok (.string ⟨(keyC tag w).toArray⟩) w' ∧ Below V.heap.size V w' := by
  obtain ⟨hr, hl⟩ := own_rdk hw
  have hB := Blk.new V 5 #[.int .u8 (tag : Int)]
  have hu : (Value.int .u8 (tag : Int)) = bv (UInt8.ofNat tag) := by
    unfold bv
    congr 1
    have h1 : (UInt8.ofNat tag).toNat = tag := by rw [UInt8.toNat_ofNat']; exact Nat.mod_eq_of_lt (by omega)
    rw [h1]
  have hrd : Rd (V.alloc (.cells #[.int .u8 (tag : Int)] 5)) (some ⟨V.heap.size, 0, none⟩) [UInt8.ofNat tag] := .inr ⟨V.heap.size, 0, rfl, fun j hj => by
    simp only [List.length_singleton] at hj
    obtain rfl : j = 0 := by omega
    rw [show (0 + 0) = 0 from rfl, hB.cell, hu]
    rfl⟩
  refine (num_lay (some ⟨V.heap.size, 0, none⟩) Aw [UInt8.ofNat tag] w 1 1 nw cw _ rfl hl (Nat.le_refl _) (by omega) hrd (hr.below (below_alloc _ _)) h64 (by omega)).mono ?_
  rintro e w' ⟨v, rfl, hg, hb⟩
  obtain ⟨A, c, rfl, hrd2, hl2⟩ := hg.rd
  have hx : ([UInt8.ofNat tag] ++ laidL w).length = kn := hk
  rw [hx]
  exact ⟨A, c, rfl, run_str (P := Try.prog) Try.underlying51 Try.underlying5 Try.underlying9 w' A kn c (keyC tag w) hk hrd2, (below_alloc _ _).trans (hb.mono (below_alloc V _).size)⟩

theorem keyC_len {tag nw : Nat} {w : List Nat} (hl : w.length = nw) (hn : nw ≤ 1000000) : (keyC tag w).length ≤ 9000001 := by
  have := laidL_len w
  unfold keyC
  rw [List.length_cons]
  omega
set_option maxRecDepth 100000 in
set_option maxHeartbeats 1000000 in
theorem mcell_v (h : MK w0 W F pm b1 b2 st rs) (tag : Nat) (ht : tag < 8) {Bq nw cw : Nat} {Aw : Option Addr} {w : List Nat} (hw : W.ownsRow Bq 34 1 (.slice Aw nw cw) nw (w.map nv)) (h64 : W64 w) (hn : nw ≤ 1000000) (hl : st.ws.length ≤ 1000000) (hc : st.cs.length ≤ 1000000) :
    Calls Try.prog 63 #[.pointer (some ⟨pm, 0, none⟩), .int .i64 (tag : Int), .slice Aw nw cw] W (MEnd w0 W F pm b1 b2 (cellS st tag w) rs) := by
  have hwl : w.length = nw := (own_rdk hw).2
  have hkl := keyC_len (tag := tag) hwl hn
  obtain ⟨kn, hkn⟩ : ∃ kn, (keyC tag w).length = kn := ⟨_, rfl⟩
  have hksm : (keyC tag w).length ≤ maxLen := by unfold maxLen; omega
  have HK := Lib.hid (key_v (V := W) tag ht hw h64 hn hkn)
  have HH := Lib.hid h
  have HW9 := Lib.hid hw
  have HKS := Lib.hid hksm
  have H64 := Lib.hid h64
  have HWL := Lib.hid hwl
  clear h hw hkl hkn hksm h64 hwl
  obtain ⟨key, hkey⟩ : ∃ key, keyC tag w = key := ⟨_, rfl⟩
  rw [hkey] at HK
  have HKEY := Lib.hid hkey
  clear hkey
  go_enter Try.func63, Try.ntmps63
  go_upto_region 2 with (go_at_call 39; refine HK.out.mono ?_; rintro e w1 ⟨A1, c1, rfl, hst, hb1⟩)
  refine wp_world (fun V => MK w0 V F pm b1 b2 st rs ∧ V.ownsRow Bq 34 1 (.slice Aw nw cw) nw (w.map nv) ∧ Fr F W V) ⟨HH.out.keep hb1, own_far HW9.out hb1, Fr.of_below hb1 F⟩ ?_
  clear hst hb1 HK HH HW9
  rintro V ⟨⟨vw, va, h⟩, hw, hf⟩
  obtain ⟨Aa, ca, hva⟩ := own_sl h.rw
  obtain ⟨nn, hnn⟩ : ∃ nn, st.ws.length = nn := ⟨_, rfl⟩
  rw [hnn] at hva hl
  subst hva
  have c3 := h.obj.cell 3
  have HF := Lib.hid hf
  cases hfc : findC st.cs tag w with
  | some a =>
    have hE : cellS st tag w = (st, 8 * a + tag) := by unfold cellS; rw [hfc]
    have HE := Lib.hid hE
    obtain ⟨L, m1, m2, m3⟩ := h.cm
    have hlk := m1.look HKS.out
    rw [m3 tag w ht H64.out, hfc, HKEY.out] at hlk
    simp only [Option.map_some, Option.getD_some, Option.isSome_some] at hlk
    have HH := Lib.hid h
    clear h hw hf m1 m2 m3 hE hfc hnn
    obtain ⟨x, hx⟩ : ∃ x : Int, ((8 * a + tag : Nat) : Int) = x := ⟨_, rfl⟩
    rw [hx] at hlk
    have HX := Lib.hid hx
    clear hx
    go_wp2
    go_ret
    rw [HE.out]
    exact ⟨by first | rfl | (rw [← HX.out]; rfl), F, HH.out.back, fun k hk => .inl hk, HF.out⟩
  | none =>
    have hE : cellS st tag w = (⟨st.ws ++ w, st.nm, st.cs ++ [(tag, w, nn)]⟩, 8 * nn + tag) := by unfold cellS; rw [hfc, ← hnn]
    have HE := Lib.hid hE
    obtain ⟨L, m1, m2, m3⟩ := h.cm
    have hlk := m1.look HKS.out
    rw [m3 tag w ht H64.out, hfc, HKEY.out] at hlk
    simp only [Option.map_none, Option.getD_none, Option.isSome_none] at hlk
    have c0 := h.obj.cell 0
    have HH := Lib.hid h
    have HWR := Lib.hid hw
    have HFC := Lib.hid hfc
    have HN := Lib.hid hnn
    clear h hw hf m1 m2 m3 hE hfc hnn
    have HWD := Lib.hid (hword_v nn tag (by omega) ht)
    go_upto_region 6 with (go_at_call 62; refine (HWD.out _).mono ?_; rintro e w' ⟨rfl, rfl⟩)
    refine wp_world (fun V => (∃ va', MKp w0 V F pm b1 b2 va' va rs.1 st st.nm rs.2) ∧ V.ownsRow Bq 34 1 (.slice Aw nw cw) nw (w.map nv) ∧ Fr F W V) ⟨⟨_, HH.out⟩, HWR.out, HF.out⟩ ?_
    clear hlk c0 c3 HH HWR HF HWD
    rintro V ⟨⟨vw, h1⟩, hw, f1⟩
    have H1 := Lib.hid h1
    have F1 := Lib.hid f1
    have c0 := h1.obj.cell 0
    have hr : V.ownsRow w0.heap.size 34 1 vw nn (st.ws.map nv) := by have h9 := h1.rw; rw [HN.out] at h9; exact h9
    have HR := Lib.hid hr
    have HWR := Lib.hid hw
    have hw0 := h1.old.size
    clear h1 f1 hr hw
    go_upto_region 7 with (at_builtin; refine wpList_app uintsT rfl (.tmp 42) (.tmp 43) rfl w0.heap.size vw nn (st.ws.map nv) rfl HR.out Aw nw cw (w.map nv) rfl (by rw [List.length_map, HWL.out, Nat.mul_one]) (own_cs HWR.out) (nv_one w) (by unfold maxLen; omega) (by omega) hw0 ?_; intro v3 w3 ho3 hg3 hat3; obtain ⟨A3, c3, rfl⟩ := own_sl ho3; have HO3 := Lib.hid ho3; have HG3 := Lib.hid hg3; have HA3 := Lib.hid hat3; have hc3 : w3.cell? ⟨pm, 0, none⟩ = some vw := (by have h9 := (H1.out.obj.grown hg3 (fun e => (H1.out.apart.2.2.1 pm e.symm).1 rfl)).cell 0; exact h9); have hz3 : w3.frozen? ⟨pm, 0, none⟩ = false := (H1.out.obj.grown hg3 (fun e => (H1.out.apart.2.2.1 pm e.symm).1 rfl)).frozen 0; clear ho3 hg3 hat3)
    obtain ⟨g1, g2⟩ := H1.out.setW (ws' := st.ws ++ w) (by simpa [HN.out, HWL.out] using HO3.out) HG3.out HA3.out
    have G2 := Lib.hid (F1.out.same g2)
    refine wp_world (fun V2 => (∃ F' v9, MKp w0 V2 F' pm b1 b2 v9 va rs.1 ⟨st.ws ++ w, st.nm, st.cs⟩ st.nm rs.2 ∧ (∀ k, F' k → F k ∨ W.heap.size ≤ k)) ∧ Fr F W V2) ⟨⟨_, _, g1, fun k hk => ?_⟩, G2.out⟩ ?_
    · rcases hk with hk | hk
      · exact .inl hk
      · rcases HA3.out with h9 | h9
        · exact .inl (H1.out.fw k (by rw [← h9]; exact hk))
        · rw [h9] at hk
          obtain rfl := Option.some.inj hk
          exact .inr F1.out.size
    clear g1 g2 G2 HO3 HG3 HA3 hc3 hz3 H1 F1 c0 HR hw0 HWR
    rintro V2 ⟨⟨F', v9, h9, s9⟩, f9⟩
    obtain ⟨w4, hup, hg4, hcm4⟩ := cm_add (at_ := nn) h9.cm ht H64.out HKS.out HFC.out hc (by omega)
    rw [HKEY.out] at hup
    have c3 := h9.obj.cell 3
    obtain ⟨g1, g2⟩ := h9.turnC hg4 hcm4
    have G1 := Lib.hid g1
    have G2 := Lib.hid g2
    have S9 := Lib.hid s9
    have F9 := Lib.hid f9
    clear h9 s9 f9 hg4 hcm4 g1 g2
    have hlw : leafW nn tag = 8 * nn + tag := leafW_small (by omega) ht
    rw [hlw]
    clear hlw
    obtain ⟨x, hx⟩ : ∃ x : Int, ((8 * nn + tag : Nat) : Int) = x := ⟨_, rfl⟩
    rw [hx] at hup ⊢
    have HX := Lib.hid hx
    clear hx
    go_wp2
    go_ret
    rw [HE.out]
    exact ⟨by first | rfl | (rw [← HX.out]; rfl), F', G1.out.back, S9.out, F9.out.trans G2.out (fun k hk h9 => by rcases S9.out k h9 with h9 | h9; exact h9; omega)⟩
end
end Go.Proofs.Ytefnjplfemgibaa
