/- Heap (layer 9): the document's Put. Written by hqgenl.py. -/
import Derived.Test.YtefnjplfemgibaaHpQ
import Derived.Test.YtefnjplfemgibaaHpU
import Derived.Test.YtefnjplfemgibaaRefG
import Derived.Test.YtefnjplfemgibaaHpO
namespace Go.Proofs.Ytefnjplfemgibaa
open Go.RowKit
set_option linter.unusedVariables false

section
variable {W W' : World} {Aw Aa Ar : Option Addr} {lw cw la ca lr cr : Nat} {ws rs : List Nat} {nm : List (List UInt8)}
theorem laidL_take {l : List Nat} {k : Nat} (h : k < l.length) : laidL (l.take (k + 1)) = laidL (l.take k) ++ laidB l[k] 0 := by
  unfold laidL
  rw [List.take_succ_eq_append_getElem h, List.flatMap_append]
  simp only [List.flatMap_cons, List.flatMap_nil, List.append_nil]
theorem laidSs_take {l : List (List UInt8)} {k : Nat} (h : k < l.length) : laidSs (l.take (k + 1)) = laidSs (l.take k) ++ laidS l[k] := by
  unfold laidSs
  rw [List.take_succ_eq_append_getElem h, List.flatMap_append]
  simp only [List.flatMap_cons, List.flatMap_nil, List.append_nil]
theorem laidB_le9 (n : Nat) : (laidB n 0).length ≤ 9 := by have := laidL_len [n]; rw [laidL_one] at this; simpa using this
theorem laidL_take_len (l : List Nat) (k : Nat) : (laidL (l.take k)).length ≤ 9 * l.length := by have := laidL_len (l.take k); rw [List.length_take] at this; omega
theorem laidSs_take_len (l : List (List UInt8)) (k : Nat) : (laidSs (l.take k)).length ≤ 9 * l.length + textSum l := by
  have h := laidSs_len (l.take k)
  have h2 : textSum (l.take k) ≤ textSum l := by
    induction l generalizing k with
    | nil => simp
    | cons a r ih =>
      cases k with
      | zero => simp [textSum]
      | succ k => have := ih k (laidSs_len _); simp only [List.take_succ_cons, textSum, List.map_cons, List.sum_cons] at *; omega
  rw [List.length_take] at h
  omega
/-- What Put hands back. -/
def PutEnds (W : World) (P : List UInt8) (e : Ending) (W' : World) : Prop := ∃ A c, e = .returned (.slice A P.length c) ∧ Rd W' A P ∧ P.length ≤ c ∧ c ≤ 9223372036854775807 ∧ Below W.heap.size W W'
set_option maxRecDepth 100000 in
set_option maxHeartbeats 4000000 in
theorem rput_v (W : World) (h : HRd W Aw lw cw Aa la ca Ar lr cr ws nm rs) (hb : lw ≤ 1000000 ∧ la ≤ 1000000 ∧ lr ≤ 1000000) (ht : textSum nm ≤ 1000000000) :
    Calls Try.prog 27 #[.agg #[.slice Aw lw cw, .slice Aa la ca, .slice Ar lr cr]] W (PutEnds W (putP ws nm rs)) := by
  obtain ⟨hb1, hb2, hb3⟩ := hb
  have HH := Lib.hid h
  have HTS := Lib.hid ht
  clear h ht
  obtain ⟨g, hg⟩ : ∃ g, W.heap.size = g := ⟨_, rfl⟩
  have HG := Lib.hid hg
  obtain ⟨P0, hP0⟩ : ∃ P, laidB lw 0 = P := ⟨_, rfl⟩
  have hz0 : P0.length ≤ 9 := by rw [← hP0]; exact laidB_le9 _
  obtain ⟨P2, hP2⟩ : ∃ P, P0 ++ laidL ws ++ laidB la 0 = P := ⟨_, rfl⟩
  have hz1 : (P0 ++ laidL ws).length ≤ 10000000 := by rw [List.length_append]; have := laidL_len ws; have := HH.out.hlw; omega
  have hz2 : P2.length ≤ 10000009 := by rw [← hP2, List.length_append]; have := laidB_le9 la; omega
  obtain ⟨P4, hP4⟩ : ∃ P, P2 ++ laidSs nm ++ laidB lr 0 = P := ⟨_, rfl⟩
  have hz3 : (P2 ++ laidSs nm).length ≤ 2000000000 := by rw [List.length_append]; have := laidSs_len nm; have := HH.out.hla; have := HTS.out; omega
  have hz4 : P4.length ≤ 2000000009 := by rw [← hP4, List.length_append]; have := laidB_le9 lr; omega
  have HPP := Lib.hid (show putP ws nm rs = P4 ++ laidL rs by rw [← hP4, ← hP2, ← hP0, putP_eq, HH.out.hlw, HH.out.hla, HH.out.hlr]; simp only [List.append_assoc])
  have HP0 := Lib.hid hP0
  have HP2 := Lib.hid hP2
  have HP4 := Lib.hid hP4
  clear hP0 hP2 hP4
  go_enter Try.func27, Try.ntmps27
  go_upto_region 1 with (fail)
  refine wp_world (fun V => Below W.heap.size W V ∧ Blk V g 29 #[.slice Aw lw cw, .slice Aa la ca, .slice Ar lr cr]) ⟨below_alloc _ _, by rw [← HG.out]; exact Blk.new _ _ _⟩ ?_
  rintro V ⟨hb, hk⟩
  have HB := Lib.hid hb
  have HK := Lib.hid hk
  have x0 := hk.cell 0
  have hgV : g + 1 ≤ V.heap.size := hk.lt
  clear hb hk hg
  have HU0 := Lib.hid (rUint_own (.slice none 0 0) [] lw V (g + 1) (World.ownsRow_nil _ _ _ _) hgV (by omega) (by simp))
  go_upto_region 2 with (go_at_call 53; refine HU0.out.mono ?_; rintro e w1 ⟨v1, rfl, ho1, hgr1⟩)
  rw [List.nil_append, HP0.out] at ho1
  have hb1' : Below (g + 1) V w1 := hgr1.below hgV (World.ownsRow_nil _ _ 5 1)
  refine wp_world (fun V1 => Below (g + 1) V V1 ∧ V1.ownsRow (g + 1) 5 1 v1 P0.length (P0.map bv)) ⟨hb1', ho1⟩ ?_
  clear hb1' ho1 hgr1 HU0 x0
  rintro V1 ⟨hb, ho⟩
  have HB1 := Lib.hid hb
  have HO1 := Lib.hid ho
  clear hb ho
  go_wp2
  go_loopw [3, 4] (fun v ix wr => ∃ (j : Nat) (v9 : Value), j ≤ lw ∧ ix = .int .i64 (j : Int) ∧ v9 = v ∧ Below (g + 1) V wr ∧ wr.ownsRow (g + 1) 5 1 v (P0 ++ laidL (ws.take j)).length ((P0 ++ laidL (ws.take j)).map bv)) (fun _ ix _ => lw - (intOf ix).toNat)
  case atStart => exact ⟨0, _, Nat.zero_le _, rfl, rfl, HB1.out, by simpa [laidL] using HO1.out⟩
  case round =>
    obtain ⟨j, v_1, hj, rfl, hv9, hb, ho⟩ := hrel
    subst hv9
    have hk := HK.out.below hb (Nat.lt_succ_self g)
    have x0 := hk.cell 0
    have hsz := hb.size
    clear HB1 HO1
    by_cases hlt : j < lw
    · have hd1 : decide (j < lw) = true := by simp; omega
      have hkl : j < ws.length := by rw [HH.out.hlw]; exact hlt
      obtain ⟨b', o', rfl, hcy⟩ := HH.out.w.at_ (j := j) (v := nv ws[j]) (by simp [hkl])
      have c0 := ((HB.out.trans (hb.mono (by have := HB.out.size; have := HG.out; omega))).cell (World.block_lt_of_cell? W _ hcy)).trans hcy
      unfold nv at c0
      have HTK := Lib.hid (laidL_take hkl)
      have hq1 : (0 : Int) ≤ (j : Int) := by omega
      have hq2 : (j : Int) < (lw : Int) := by omega
      have HU := Lib.hid (rUint_own v_1 (P0 ++ laidL (ws.take j)) ws[j] wr (g + 1) ho (by omega) (HH.out.w64 _ (List.getElem_mem hkl)) (by rw [List.length_append]; have := laidL_take_len ws j; have := HH.out.hlw; have := HTS.out; omega))
      have HBW := Lib.hid hb
      have HOW := Lib.hid ho
      generalize ws[j] = y at *
      clear hb ho hk hkl hcy
      go_wp2_with (go_at_call 53; refine HU.out.mono ?_; rintro e w2 ⟨v2, rfl, ho2, hgr2⟩; have HO2 := Lib.hid ho2; have HG2 := Lib.hid hgr2; clear ho2 hgr2)
      go_roundw
      case rel => exact ⟨j + 1, _, by omega, by go_num, rfl, HBW.out.trans (HG2.out.below (by omega) HOW.out), by rw [HTK.out, ← List.append_assoc]; exact HO2.out⟩
      case measure => simp [intOf]; omega
    · obtain rfl : lw = j := by omega
      have hd1 : decide (lw < lw) = false := by simp
      rw [List.take_of_length_le (by rw [HH.out.hlw]; exact Nat.le_refl _)] at ho
      have HBW := Lib.hid hb
      have HOW := Lib.hid ho
      clear ho
      have x1 := hk.cell 1
      have HU1 := Lib.hid (rUint_own v_1 (P0 ++ laidL ws) la wr (g + 1) HOW.out (by omega) (by omega) (by omega))
      clear hb hk
      go_upto_region 7 with (go_at_call 53; refine HU1.out.mono ?_; rintro e w1 ⟨v1, rfl, ho1, hgr1⟩)
      rw [HP2.out] at ho1
      have hb1' : Below (g + 1) V w1 := HBW.out.trans (hgr1.below (by omega) HOW.out)
      refine wp_world (fun V1 => Below (g + 1) V V1 ∧ V1.ownsRow (g + 1) 5 1 v1 P2.length (P2.map bv)) ⟨hb1', ho1⟩ ?_
      clear hb1' ho1 hgr1 HU1 HBW HOW x1 x0
      rintro V1 ⟨hb, ho⟩
      have HB1 := Lib.hid hb
      have HO1 := Lib.hid ho
      clear hb ho
      go_wp2
      go_loopw [3, 5] (fun v ix wr => ∃ (j : Nat) (v9 : Value), j ≤ la ∧ ix = .int .i64 (j : Int) ∧ v9 = v ∧ Below (g + 1) V wr ∧ wr.ownsRow (g + 1) 5 1 v (P2 ++ laidSs (nm.take j)).length ((P2 ++ laidSs (nm.take j)).map bv)) (fun _ ix _ => la - (intOf ix).toNat)
      case atStart => exact ⟨0, _, Nat.zero_le _, rfl, rfl, HB1.out, by simpa [laidSs] using HO1.out⟩
      case round =>
        obtain ⟨j, v_1, hj, rfl, hv9, hb, ho⟩ := hrel
        subst hv9
        have hk := HK.out.below hb (Nat.lt_succ_self g)
        have x1 := hk.cell 1
        have hsz := hb.size
        clear HB1 HO1
        by_cases hlt : j < la
        · have hd1 : decide (j < la) = true := by simp; omega
          have hkl : j < nm.length := by rw [HH.out.hla]; exact hlt
          obtain ⟨b', o', rfl, hcy⟩ := HH.out.a.at_ (j := j) (v := hv nm[j]) (by simp [hkl])
          have c0 := ((HB.out.trans (hb.mono (by have := HB.out.size; have := HG.out; omega))).cell (World.block_lt_of_cell? W _ hcy)).trans hcy
          unfold hv at c0
          have HTK := Lib.hid (laidSs_take hkl)
          have hel : nm[j].length ≤ textSum nm := by have := textSum_take nm j hkl; omega
          have hq1 : (0 : Int) ≤ (j : Int) := by omega
          have hq2 : (j : Int) < (la : Int) := by omega
          have HU := Lib.hid (rText_own v_1 (P2 ++ laidSs (nm.take j)) nm[j] wr (g + 1) ho (by omega) (by rw [List.length_append]; have := laidSs_take_len nm j; have := HH.out.hla; have := HTS.out; omega))
          have HBW := Lib.hid hb
          have HOW := Lib.hid ho
          generalize nm[j] = y at *
          clear hb ho hk hkl hcy
          go_wp2_with (go_at_call 54; refine HU.out.mono ?_; rintro e w2 ⟨v2, rfl, ho2, hgr2⟩; have HO2 := Lib.hid ho2; have HG2 := Lib.hid hgr2; clear ho2 hgr2)
          go_roundw
          case rel => exact ⟨j + 1, _, by omega, by go_num, rfl, HBW.out.trans (HG2.out.below (by omega) HOW.out), by rw [HTK.out, ← List.append_assoc]; exact HO2.out⟩
          case measure => simp [intOf]; omega
        · obtain rfl : la = j := by omega
          have hd1 : decide (la < la) = false := by simp
          rw [List.take_of_length_le (by rw [HH.out.hla]; exact Nat.le_refl _)] at ho
          have HBW := Lib.hid hb
          have HOW := Lib.hid ho
          clear ho
          have x2 := hk.cell 2
          have HU1 := Lib.hid (rUint_own v_1 (P2 ++ laidSs nm) lr wr (g + 1) HOW.out (by omega) (by omega) (by omega))
          clear hb hk
          go_upto_region 12 with (go_at_call 53; refine HU1.out.mono ?_; rintro e w1 ⟨v1, rfl, ho1, hgr1⟩)
          rw [HP4.out] at ho1
          have hb1' : Below (g + 1) V w1 := HBW.out.trans (hgr1.below (by omega) HOW.out)
          refine wp_world (fun V1 => Below (g + 1) V V1 ∧ V1.ownsRow (g + 1) 5 1 v1 P4.length (P4.map bv)) ⟨hb1', ho1⟩ ?_
          clear hb1' ho1 hgr1 HU1 HBW HOW x2 x1
          rintro V1 ⟨hb, ho⟩
          have HB1 := Lib.hid hb
          have HO1 := Lib.hid ho
          clear hb ho
          go_wp2
          go_loopw [3, 6] (fun v ix wr => ∃ (j : Nat) (v9 : Value), j ≤ lr ∧ ix = .int .i64 (j : Int) ∧ v9 = v ∧ Below (g + 1) V wr ∧ wr.ownsRow (g + 1) 5 1 v (P4 ++ laidL (rs.take j)).length ((P4 ++ laidL (rs.take j)).map bv)) (fun _ ix _ => lr - (intOf ix).toNat)
          case atStart => exact ⟨0, _, Nat.zero_le _, rfl, rfl, HB1.out, by simpa [laidL] using HO1.out⟩
          case round =>
            obtain ⟨j, v_1, hj, rfl, hv9, hb, ho⟩ := hrel
            subst hv9
            have hk := HK.out.below hb (Nat.lt_succ_self g)
            have x2 := hk.cell 2
            have hsz := hb.size
            clear HB1 HO1
            by_cases hlt : j < lr
            · have hd1 : decide (j < lr) = true := by simp; omega
              have hkl : j < rs.length := by rw [HH.out.hlr]; exact hlt
              obtain ⟨b', o', rfl, hcy⟩ := HH.out.r.at_ (j := j) (v := nv rs[j]) (by simp [hkl])
              have c0 := ((HB.out.trans (hb.mono (by have := HB.out.size; have := HG.out; omega))).cell (World.block_lt_of_cell? W _ hcy)).trans hcy
              unfold nv at c0
              have HTK := Lib.hid (laidL_take hkl)
              have hq1 : (0 : Int) ≤ (j : Int) := by omega
              have hq2 : (j : Int) < (lr : Int) := by omega
              have HU := Lib.hid (rUint_own v_1 (P4 ++ laidL (rs.take j)) rs[j] wr (g + 1) ho (by omega) (HH.out.r64 _ (List.getElem_mem hkl)) (by rw [List.length_append]; have := laidL_take_len rs j; have := HH.out.hlr; have := HTS.out; omega))
              have HBW := Lib.hid hb
              have HOW := Lib.hid ho
              generalize rs[j] = y at *
              clear hb ho hk hkl hcy
              go_wp2_with (go_at_call 53; refine HU.out.mono ?_; rintro e w2 ⟨v2, rfl, ho2, hgr2⟩; have HO2 := Lib.hid ho2; have HG2 := Lib.hid hgr2; clear ho2 hgr2)
              go_roundw
              case rel => exact ⟨j + 1, _, by omega, by go_num, rfl, HBW.out.trans (HG2.out.below (by omega) HOW.out), by rw [HTK.out, ← List.append_assoc]; exact HO2.out⟩
              case measure => simp [intOf]; omega
            · obtain rfl : lr = j := by omega
              have hd1 : decide (lr < lr) = false := by simp
              rw [List.take_of_length_le (by rw [HH.out.hlr]; exact Nat.le_refl _)] at ho
              have HBW := Lib.hid hb
              have HOW := Lib.hid ho
              clear ho
              clear hk
              go_wp2
              refine bodyPost_ret (v := v_1) (by simp [results, Try.results27, go_sem]) rfl ?_
              obtain ⟨A9, c9, e9, hr9, _, hc9⟩ := own_rd HOW.out
              have h9 : c9 ≤ 9223372036854775807 := by rw [e9] at HOW; have h8 := own_caps HOW.out; exact h8.2
              unfold PutEnds
              rw [HPP.out, e9]
              exact ⟨A9, c9, rfl, hr9, hc9, h9, HB.out.trans (HBW.out.mono (by have := HB.out.size; have := HG.out; omega))⟩
end
end Go.Proofs.Ytefnjplfemgibaa
