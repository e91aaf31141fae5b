/- The walk of EncodeRow. -/
import Derived.Test.YtommadcjemljcaaEBackW
import Derived.Deep.RegionHeld3
import Derived.Deep.QuietTactic
import Derived.BigQuiet
import Derived.IntWalk
namespace Go.Proofs.Ytommadcjemljcaa
open Go.RowKit
set_option linter.unusedVariables false

theorem partsL_mem {l : List TV} {k : Nat} (hk : k < l.length) : (l[k]).parts ≤ TV.partsL l := by
  have h1 := partsL_take l k hk
  have h2 := partsL_take_le l (k + 1)
  omega
theorem check_item {l : List TV} (h : checkP l = 0) {k : Nat} (hk : k < l.length) : checkP [l[k]] = 0 ∧ l[k].isT = true := by
  obtain ⟨h1, h2⟩ := check_ok h
  have h3 : l[k].isT = true := by
    have := h2
    rw [← List.take_append_drop (k + 1) l, isL_append, isL_take l k hk, Bool.and_eq_true, Bool.and_eq_true] at this
    exact this.1.2
  have h4 := partsL_mem hk
  refine ⟨?_, h3⟩
  unfold checkP
  rw [if_pos (by simp only [TV.partsL]; omega)]
  simp [TV.isL, h3]
theorem putB_item {t : TV} (h : t.isT = true) : ∃ k r, t.kind = (k : Nat) ∧ k < 256 ∧ putB [t] = 1 :: 1 :: UInt8.ofNat k :: r ∧ layT t = UInt8.ofNat k :: r := by
  obtain ⟨k, n, s, l⟩ := t
  simp only [TV.isT, Bool.and_eq_true] at h
  have hc := head_cases h.1
  obtain ⟨q, rfl⟩ := Int.eq_ofNat_of_zero_le (show (0 : Int) ≤ k by omega)
  have hl : layT (.mk (q : Nat) n s l) = UInt8.ofNat q :: ((if (q : Int) = 1 then laidI n else if (q : Int) = 2 then laidS s else if (q : Int) = 3 ∨ (q : Int) = 5 then laidB n.toNat 0 else if (q : Int) = 4 then laidB n.toNat 0 ++ laidB l.length 0 else if (q : Int) = 6 then laidB l.length 0 else []) ++ layTs l) := by
    simp only [layT, layH, List.cons_append]
    rfl
  refine ⟨q, _, rfl, by omega, ?_, hl⟩
  unfold putB
  simp only [layTs, List.append_nil, List.length_singleton]
  rw [hl]
  rfl
theorem rdm_one {V : World} {g : Nat} {t : TV} {A : Option Addr} {c : Nat} (hR : RdM V A c t.items) (h : Blk V g 39 #[.int .i64 t.kind, .int .i64 t.int, .string ⟨t.name.toArray⟩, .slice A t.items.length c]) : RdM V (some ⟨g, 0, none⟩) 1 [t] := by
  refine ⟨by simp, by omega, .inr ⟨g, 0, rfl, ?_⟩⟩
  simp only [TV.Row, and_true]
  exact (TV.at_iff _ _ _).2 ⟨h.cell 0, h.cell 1, h.cell 2, A, c, h.cell 3, hR⟩
theorem own_one {W : World} (v : Value) (e : Nat) : (W.alloc (.cells #[v] e)).ownsRow W.heap.size e 1 (.slice (some ⟨W.heap.size, 0, none⟩) 1 1) 1 [v] :=
  ⟨rfl, .inr ⟨W.heap.size, 1, #[v], rfl, Nat.le_refl _, heap_alloc_new _ _, Nat.le_refl _, by simp [maxLen], rfl, rfl⟩⟩
theorem own_two {W : World} (v u : Value) (e : Nat) : (W.alloc (.cells #[v, u] e)).ownsRow W.heap.size e 1 (.slice (some ⟨W.heap.size, 0, none⟩) 2 2) 2 [v, u] :=
  ⟨rfl, .inr ⟨W.heap.size, 2, #[v, u], rfl, Nat.le_refl _, heap_alloc_new _ _, Nat.le_refl _, by simp [maxLen], rfl, rfl⟩⟩
theorem laidB_small {n : Nat} (h1 : 0 < n) (h2 : n ≤ 100) : laidB n 0 = [1, UInt8.ofNat n] := by
  have : ∀ m : Fin 101, 0 < m.val → laidB m.val 0 = [1, UInt8.ofNat m.val] := by decide +kernel
  exact this ⟨n, by omega⟩ h1

set_option maxRecDepth 100000 in
set_option maxHeartbeats 800000 in
theorem erow_in (l m : List TV) (A A2 : Option Addr) (len c n2 c2 : Nat) (w : World) (hlen : l.length = len) (hnm : TV.namedL l) (hR : RdM w A c l) (h1 : len ≤ 100) (hlen2 : m.length = n2) (hnm2 : TV.namedL m) (hR2 : RdM w A2 c2 m) (h2 : n2 ≤ 100) (hk : checkP l = 0) (hk2 : checkP m = 0) :
    Calls Try.prog 5 #[.slice A len c, .slice A2 n2 c2] w (Yes w) := by
  have hd5 : decide (100 < len) = false := by simp; omega
  have hd6 : decide (100 < n2) = false := by simp; omega
  have HLEN := Lib.hid hlen
  have HLEN2 := Lib.hid hlen2
  have HNM := Lib.hid hnm
  have HNM2 := Lib.hid hnm2
  have HR := Lib.hid hR
  have HR2 := Lib.hid hR2
  have HK := Lib.hid hk
  have HK2 := Lib.hid hk2
  have hpl := putB_len hk
  have hpl2 := putB_len hk2
  obtain ⟨x, hx⟩ : ∃ x, putB l = x := ⟨_, rfl⟩
  obtain ⟨y, hy⟩ : ∃ y, putB m = y := ⟨_, rfl⟩
  have HX := Lib.hid hx
  have HY := Lib.hid hy
  have HC1 : Hid (∀ V, Below w.heap.size w V → Calls Try.prog 14 #[.slice A len c] V fun e w' => e = .returned (.int .i64 0) ∧ Below V.heap.size V w') := fun V hV => rcheck_num hlen hnm (hR.below hV) hk
  have HC2 : Hid (∀ V, Below w.heap.size w V → Calls Try.prog 14 #[.slice A2 n2 c2] V fun e w' => e = .returned (.int .i64 0) ∧ Below V.heap.size V w') := fun V hV => rcheck_num hlen2 hnm2 (hR2.below hV) hk2
  have hbw : Below w.heap.size w w := Below.refl _ _
  have HROWS : Hid (∀ V, Below w.heap.size w V → Calls Try.prog 13 #[.slice A len c, .slice A2 n2 c2] V fun e w' => e = .returned (.bool (x == y)) ∧ Below V.heap.size V w') := fun V hV =>
    (rows_any l m A len c A2 n2 c2 V V hlen hlen2 (Below.refl _ _) (hR.below hV) (hR2.below hV)).mono fun e w' ⟨he, h⟩ => ⟨by
      rw [he]
      have : rowsB l m = (x == y) := by
        by_cases hlm : l = m
        · subst hlm
          rw [rowsB_self, ← hx, ← hy]; simp
        · have h1 : rowsB l m = false := by
            cases hq : rowsB l m with
            | false => rfl
            | true => exact absurd ((rowsB_iff l m).1 hq) hlm
          have h2 : (x == y) = false := by
            rw [beq_eq_false_iff_ne]
            intro he
            exact hlm (putB_one (r := []) (r' := []) hk hk2 (by rw [hx, hy, he])).1
          rw [h1, h2]
      rw [this], h⟩
  rw [hx] at hpl
  rw [hy] at hpl2
  clear hlen hlen2 hnm hnm2 hR hR2 hk hk2 hx hy
  go_enter Try.func5, Try.ntmps5
  go_upto_region 3 with (first
    | (go_at_call 14; (with_reducible refine (HC1.out _ hbw).mono ?_); rintro r V1 ⟨rfl, hb1⟩; have hb1' := below_step hbw hb1)
    | (go_at_call 14; (with_reducible refine (HC2.out _ hb1').mono ?_); rintro r V2 ⟨rfl, hb2⟩; have hb2' := below_step hb1' hb2))
  have HP1 := Lib.hid (put_yes HLEN.out HNM.out (HR.out.below hb2') HK.out)
  rw [HX.out] at HP1
  go_upto_region 4 with (go_at_call 8; refine HP1.out.mono ?_; rintro r V3 ⟨A3, z3, c3, hzl, hz1, hz2, rfl, hr3, hb3⟩; have HZ3 : Hid (z3 ≤ 2000000 ∧ x.length = z3) := ⟨by omega, hzl.symm⟩; clear hzl)
  have hb3' := below_step hb2' hb3
  have HP2 := Lib.hid (put_yes HLEN2.out HNM2.out (HR2.out.below hb3') HK2.out)
  rw [HY.out] at HP2
  go_upto_region 5 with (go_at_call 8; refine HP2.out.mono ?_; rintro r V4 ⟨A4, z4, c4, hzl, hz1', hz2', rfl, hr4, hb4⟩; have HZ4 : Hid (z4 ≤ 2000000 ∧ y.length = z4) := ⟨by omega, hzl.symm⟩; clear hzl)
  refine wp_world (fun V => Below w.heap.size w V ∧ Rd V A3 x ∧ Rd V A4 y) ⟨below_step hb3' hb4, hr3.below hb4, hr4⟩ ?_
  clear hb1 hb1' hb2 hb2' hb3 hb3' hb4 hr3 hr4 HP1 HP2 hpl hpl2 HC1 HC2 hbw
  rintro X ⟨hbX, hrx, hry⟩
  have HS : Hid (∀ V, Below X.heap.size X V → ((convert 23 9 (.slice A3 z3 c3)).run Try.prog V = .ok (.string ⟨x.toArray⟩) V ∧ (convert 23 9 (.slice A4 z4 c4)).run Try.prog V = .ok (.string ⟨y.toArray⟩) V) ∧ Below X.heap.size X V) := fun V hb => ⟨⟨run_str (P := Try.prog) Try.underlying23 Try.underlying5 Try.underlying9 V A3 z3 c3 x HZ3.out.2 (hrx.below hb), run_str (P := Try.prog) Try.underlying23 Try.underlying5 Try.underlying9 V A4 z4 c4 y HZ4.out.2 (hry.below hb)⟩, hb⟩
  have HROX : Hid (∀ V, Below X.heap.size X V → Calls Try.prog 13 #[.slice A len c, .slice A2 n2 c2] V fun e w' => e = .returned (.bool (x == y)) ∧ Below X.heap.size X w') := fun V hb => (HROWS.out V (below_step hbX hb)).mono fun e w' ⟨he, h⟩ => ⟨he, below_step hb h⟩
  have HBX : Hid (Below w.heap.size w X ∧ Rd X A3 x) := ⟨hbX, hrx⟩
  clear hbX hrx hry HROWS
  go_region_held3 (fun V => ((convert 23 9 (.slice A3 z3 c3)).run Try.prog V = .ok (.string ⟨x.toArray⟩) V ∧ (convert 23 9 (.slice A4 z4 c4)).run Try.prog V = .ok (.string ⟨y.toArray⟩) V) ∧ Below X.heap.size X V) (first | exact HS.out _ hb9 | exact HS.out _ (Below.refl _ _).drew) ((first
    | (go_at_call 12; refine (num_any _ _).mono ?_; rintro e w' ⟨rfl, rfl⟩)
    | (go_at_call 13; refine (HROX.out _ (And.right (by assumption))).mono ?_; rintro e w' ⟨rfl, hb9⟩)))
  cases hbb : (x == y)
  all_goals
    clear hbb
    have hb10 := hb9
    clear hb9
    clear HS HROX
    have hs10 := hb10.size
    by_cases hl0 : len = 0
    · have hd0 : decide (0 < len) = false := by simp; omega
      obtain ⟨B0, hB0⟩ : ∃ B0, laidB len 0 = B0 := ⟨_, rfl⟩
      have HB0 : Hid (B0 = [0]) := (show B0 = [0] by rw [← hB0, hl0]; kernel_rfl)
      have hBM : Hid ([Value.int .u8 0] = B0.map bv) := by show [Value.int .u8 0] = B0.map bv; rw [HB0.out]; rfl
      have hBL := Lib.hid (show B0.length ≤ 2 by rw [HB0.out]; simp)
      have HBE := Lib.hid hB0
      clear hB0
      go_upto_region 10 with (fail)
      have ho : (w'.alloc (.cells #[.int .u8 0] 5)).ownsRow X.heap.size 5 1 (.slice (some ⟨w'.heap.size, 0, none⟩) 1 1) 1 (B0.map bv) := by
        rw [← hBM.out]
        exact own_lower (own_one (W := w') (.int .u8 0) 5) hs10
      refine wp_world (fun V => Below X.heap.size X V ∧ V.ownsRow X.heap.size 5 1 (.slice (some ⟨w'.heap.size, 0, none⟩) 1 1) 1 (B0.map bv)) ⟨below_step hb10 (below_alloc _ _), ho⟩ ?_
      obtain ⟨g9, hg9⟩ : ∃ g, w'.heap.size = g := ⟨_, rfl⟩
      rw [hg9]
      clear ho hb10 hs10 hg9 hBM
      rintro V9 hB9
      have HB9 := Lib.hid hB9
      clear hB9
      go_wp2
      go_loopw [9, 10] (fun u i wr => ∃ (k : Nat) (Ak : Option Addr) (ck : Nat), k ≤ len ∧ i = .int .i64 k ∧ u = .slice Ak (B0 ++ layTs (l.take k)).length ck ∧ wr.ownsRow X.heap.size 5 1 (.slice Ak (B0 ++ layTs (l.take k)).length ck) (B0 ++ layTs (l.take k)).length ((B0 ++ layTs (l.take k)).map bv) ∧ Below X.heap.size X wr) (fun _ i _ => len - (intOf i).toNat)
      case atStart =>
        refine ⟨0, some ⟨g9, 0, none⟩, 1, Nat.zero_le _, rfl, ?_, ?_, HB9.out.1⟩
        · simp only [List.take_zero, layTs, List.append_nil, HB0.out]; rfl
        · simp only [List.take_zero, layTs, List.append_nil]; have h9 := HB9.out.2; rw [HB0.out] at h9 ⊢; exact h9
      case round =>
        obtain ⟨k, Ak, ck, hk, rfl, rfl, hok, hbk⟩ := hrel
        have hbwk := below_step HBX.out.1 hbk
        by_cases hlt : k < len
        · exact absurd hlt (by omega)
        · obtain rfl : len = k := by omega
          have hd1 : decide (len < len) = false := by simp
          have HE : B0 ++ layTs (l.take len) = x := by rw [List.take_of_length_le (by rw [HLEN.out]; exact Nat.le_refl _), ← HX.out, putB, HLEN.out, HBE.out]
          rw [HE] at hok ⊢
          obtain ⟨Aq, cq, hv, hrq, _, _⟩ := own_rd hok
          obtain ⟨rfl, _, rfl⟩ := Value.slice.inj hv
          rw [HZ3.out.2]
          have hst1 := run_str (P := Try.prog) Try.underlying23 Try.underlying5 Try.underlying9 wr Ak z3 ck x HZ3.out.2 hrq
          have hst2 := run_str (P := Try.prog) Try.underlying23 Try.underlying5 Try.underlying9 wr A3 z3 c3 x HZ3.out.2 (HBX.out.2.below hbk)
          clear hok hrq HE
          go_wp2_with (go_at_call 7; refine (live_from hbwk).mono ?_; rintro e Y2 ⟨rfl, hbZ⟩)
          go_ret
          exact ⟨rfl, hbZ⟩
    · have hd0 : decide (0 < len) = true := by simp; omega
      obtain ⟨B0, hB0⟩ : ∃ B0, laidB len 0 = B0 := ⟨_, rfl⟩
      have HB0 : Hid (B0 = [1, UInt8.ofNat len]) := by rw [← hB0]; exact laidB_small (by omega) h1
      have hBM : Hid ([Value.int .u8 1, Value.int .u8 (len : Int)] = B0.map bv) := by
        show [Value.int .u8 1, Value.int .u8 (len : Int)] = B0.map bv
        rw [HB0.out]
        simp only [List.map_cons, List.map_nil, bv]
        rw [UInt8.toNat_ofNat_of_lt' (show len < 256 by omega)]
        rfl
      have hBL := Lib.hid (show B0.length ≤ 2 by rw [HB0.out]; simp)
      have HBE := Lib.hid hB0
      clear hB0
      go_upto_region 10 with (fail)
      have ho : ((w'.alloc (.cells #[.int .u8 0] 5)).alloc (.cells #[.int .u8 1, .int .u8 (len : Int)] 5)).ownsRow X.heap.size 5 1 (.slice (some ⟨w'.heap.size + 1, 0, none⟩) 2 2) 2 (B0.map bv) := by
        rw [← hBM.out]
        have h := own_lower (base' := X.heap.size) (own_two (W := w'.alloc (.cells #[.int .u8 0] 5)) (.int .u8 1) (.int .u8 (len : Int)) 5) (by simp; omega)
        simpa only [World.size_alloc] using h
      refine wp_world (fun V => Below X.heap.size X V ∧ V.ownsRow X.heap.size 5 1 (.slice (some ⟨w'.heap.size + 1, 0, none⟩) 2 2) 2 (B0.map bv)) ⟨below_step (below_step hb10 (below_alloc _ _)) (below_alloc _ _), ho⟩ ?_
      obtain ⟨g9, hg9⟩ : ∃ g, w'.heap.size + 1 = g := ⟨_, rfl⟩
      rw [hg9]
      clear ho hb10 hs10 hg9 hBM
      rintro V9 hB9
      have HB9 := Lib.hid hB9
      clear hB9
      go_wp2
      go_loopw [9, 10] (fun u i wr => ∃ (k : Nat) (Ak : Option Addr) (ck : Nat), k ≤ len ∧ i = .int .i64 k ∧ u = .slice Ak (B0 ++ layTs (l.take k)).length ck ∧ wr.ownsRow X.heap.size 5 1 (.slice Ak (B0 ++ layTs (l.take k)).length ck) (B0 ++ layTs (l.take k)).length ((B0 ++ layTs (l.take k)).map bv) ∧ Below X.heap.size X wr) (fun _ i _ => len - (intOf i).toNat)
      case atStart =>
        refine ⟨0, some ⟨g9, 0, none⟩, 2, Nat.zero_le _, rfl, ?_, ?_, HB9.out.1⟩
        · simp only [List.take_zero, layTs, List.append_nil, HB0.out]; rfl
        · simp only [List.take_zero, layTs, List.append_nil]; have h9 := HB9.out.2; rw [HB0.out] at h9 ⊢; exact h9
      case round =>
        obtain ⟨k, Ak, ck, hk, rfl, rfl, hok, hbk⟩ := hrel
        have hbwk := below_step HBX.out.1 hbk
        by_cases hlt : k < len
        · have hd1 : decide (k < len) = true := by simp; omega
          have hkl : k < l.length := by rw [HLEN.out]; exact hlt
          obtain ⟨bl, o, A', c', rfl, e0, e1, e2, e3, hR'⟩ := (HR.out.below hbwk).item hkl
          obtain ⟨ht1, ht2⟩ := check_item HK.out hkl
          have htn := namedL_at HNM.out hkl
          obtain ⟨kk, rr, hkd, hk2, hpb, hly⟩ := putB_item ht2
          have htk := layTs_take l k hkl
          rw [hly] at htk
          have hsz := layTs_len (l.take k) (by
            have := (check_ok HK.out).2
            rw [← List.take_append_drop k l, isL_append, Bool.and_eq_true] at this
            exact this.1)
          have hsz2 := partsL_take_le l k
          have hsz3 := (check_ok HK.out).1
          have hsz4 := putB_len ht1
          rw [hpb] at hsz4
          have hB0l := hBL.out
          have hsz5 : (B0 ++ layTs (l.take k)).length ≤ 2000000 := by rw [List.length_append]; omega
          have HPT := Lib.hid (put_yes (l := [l[k]]) (A := some ⟨wr.heap.size, 0, none⟩) (len := 1) (c := 1) (W := wr.alloc (.cells #[.int .i64 l[k].kind, .int .i64 l[k].int, .string ⟨l[k].name.toArray⟩, .slice A' l[k].items.length c'] 39)) rfl (by simp only [TV.namedL, and_true]; exact htn) (rdm_one (hR'.below (below_alloc _ _)) (Blk.new _ _ _)) ht1)
          rw [hpb] at HPT
          rw [hkd] at e0 HPT
          obtain ⟨Bk, hBk⟩ : ∃ Bk, B0 ++ layTs (l.take k) = Bk := ⟨_, rfl⟩
          have HTK := Lib.hid (show B0 ++ layTs (l.take (k + 1)) = Bk ++ UInt8.ofNat kk :: rr by rw [htk, ← List.append_assoc, hBk])
          rw [hBk] at hok hsz5
          obtain ⟨nk, hnk⟩ : ∃ nk, Bk.length = nk := ⟨_, rfl⟩
          rw [hBk, hnk]
          rw [hnk] at hok hsz5
          have HBK := Lib.hid hok
          have HKC := Lib.hid (fun V (hV : Below wr.heap.size wr V) => (hV.cell (World.block_lt_of_cell? wr _ e0)).trans e0)
          obtain ⟨rq, hrq⟩ : ∃ rq, rr.length = rq := ⟨_, rfl⟩
          have hrq3 : rq ≤ 2000000 := by simp only [List.length_cons] at hsz4; omega
          have HRQ := Lib.hid hrq
          have hq1 : (0 : Int) ≤ (k : Int) := by omega
          have hq2 : (k : Int) < (len : Int) := by omega
          have hu8 : (UInt8.ofNat kk).toNat = kk := UInt8.toNat_ofNat_of_lt' hk2
          clear hR' ht1 ht2 htn hkd hpb hly htk hsz hsz2 hsz3 hsz4 hok hBk hnk
          generalize l[k].int = ti at *
          generalize l[k].name = tn at *
          generalize l[k].items.length = tl at *
          clear hkl
          go_upto_region 14 with (go_at_call 8; refine HPT.out.mono ?_; rintro r V5 ⟨A5, z5, c5, hzl, hz5, hz6, rfl, hr5, hb5⟩; have HZ7 : Hid (z5 = rq + 3) := (by rw [hzl]; simp only [List.length_cons]; rw [HRQ.out]; exact rfl); clear hzl)
          have hz7 := HZ7.out
          have hj3 : (3 : Int) ≤ (z5 : Int) := by omega
          have hj2 : (2 : Int) < (z5 : Int) := by omega
          have hj1 : (1 : Int) < (z5 : Int) := by omega
          have hj0 : (0 : Int) < (z5 : Int) := by omega
          have hj4 : (2 : Int) ≤ (z5 : Int) := by omega
          have hj5 : (2 : Int) ≤ (c5 : Int) := by omega
          have hz9 : z5 ≤ 3000000 := by omega
          have hd3 : decide (z5 < 3) = false := by simp; omega
          have hd3' : decide ((z5 : Int) < 3) = false := by rw [decide_eq_false_iff_not]; omega
          have hd3q : ¬ ((z5 : Int) < 3) := by omega
          clear hz7
          rcases hr5 with h5 | ⟨b5, o5, rfl, hcl⟩
          · cases h5
          have p0 : V5.cell? ⟨b5, o5, none⟩ = some (.int .u8 1) := hcl 0 (by simp)
          have p1 : V5.cell? ⟨b5, o5 + 1, none⟩ = some (.int .u8 1) := hcl 1 (by simp)
          have p2 : V5.cell? ⟨b5, o5 + 2, none⟩ = some (.int .u8 (kk : Int)) := by have := hcl 2 (by simp); simp only [List.getElem_cons_succ, List.getElem_cons_zero] at this; rw [this]; show some (Value.int .u8 ((UInt8.ofNat kk).toNat : Int)) = _; rw [hu8]
          have hbw5 : Below wr.heap.size wr V5 := (below_alloc wr _).trans (hb5.mono (by simp))
          have e9 := HKC.out V5 hbw5
          have HKEEP := Lib.hid (below_drewN (Below.refl V5.heap.size V5))
          have HNEW : Hid (∀ q, Cs (V5.drewN q) (some ⟨b5, o5 + 2, none⟩) ((UInt8.ofNat kk :: rr).map bv)) := fun q => .inr ⟨_, rfl, fun j u hu => by
            rw [List.getElem?_map] at hu
            obtain ⟨hj, hu⟩ : ∃ hj : j < (UInt8.ofNat kk :: rr).length, bv (UInt8.ofNat kk :: rr)[j] = u := by
              by_cases hj : j < (UInt8.ofNat kk :: rr).length
              · rw [List.getElem?_eq_getElem hj] at hu; simp only [Option.map_some, Option.some.injEq] at hu; exact ⟨hj, hu⟩
              · rw [List.getElem?_eq_none (by omega)] at hu; cases hu
            have := hcl (j + 2) (by simp only [List.length_cons] at hj ⊢; omega)
            rw [← hu, Addr.add_lit, show o5 + 2 + j = o5 + (j + 2) by omega]
            rw [(below_drewN (Below.refl V5.heap.size V5) q).cell (World.block_lt_of_cell? V5 _ this)]
            simpa [bv] using this⟩
          have HBQ := Lib.hid (fun q => below_drewN hbw5 q)
          have HXQ := Lib.hid (fun q => below_step hbk (below_drewN hbw5 q))
          have hone := bvs_one (UInt8.ofNat kk :: rr)
          clear hcl hb5 e0 e1 e2 e3 HPT HKC
          go_quiet ((go_at_call 12; exact Calls.quiet_of_same ((num_any _ _).mono fun e w' ⟨he, hw⟩ => ⟨he, hw.symm⟩)))
          go_wp2_with (at_builtin; refine wpList_app bytesT rfl (.tmp 114) (.tmp 116) rfl X.heap.size (.slice Ak nk ck) nk (Bk.map bv) rfl (own_far HBK.out (HBQ.out _)) (some ⟨b5, o5 + 2, none⟩) _ _ ((UInt8.ofNat kk :: rr).map bv) rfl (by rw [List.length_map, List.length_cons, HRQ.out]; have := HZ7.out; omega) (HNEW.out _) hone (by simp only [maxLen]; omega) (by omega) (HXQ.out _).size ?_; intro v6 w6 hown6 hgr6 _; rw [← List.map_append] at hown6; obtain ⟨A6, c6, rfl, _, hl6, _⟩ := own_rd hown6; have hb6 := (HXQ.out _).grown hgr6 (HXQ.out _).size (fun k hk => (World.ownsRow.lt HBK.out k hk).1); have HO6 : Hid _ := hown6; have HL6 : Hid _ := hl6; clear hown6 hgr6 hl6)
          go_roundw
          case rel =>
            refine ⟨k + 1, A6, c6, by omega, by go_num, by rw [HTK.out, HL6.out], by rw [HTK.out, HL6.out]; exact HO6.out, hb6⟩
          case measure => simp [intOf]; omega
        · obtain rfl : len = k := by omega
          have hd1 : decide (len < len) = false := by simp
          have HE : B0 ++ layTs (l.take len) = x := by rw [List.take_of_length_le (by rw [HLEN.out]; exact Nat.le_refl _), ← HX.out, putB, HLEN.out, HBE.out]
          rw [HE] at hok ⊢
          obtain ⟨Aq, cq, hv, hrq, _, _⟩ := own_rd hok
          obtain ⟨rfl, _, rfl⟩ := Value.slice.inj hv
          rw [HZ3.out.2]
          have hst1 := run_str (P := Try.prog) Try.underlying23 Try.underlying5 Try.underlying9 wr Ak z3 ck x HZ3.out.2 hrq
          have hst2 := run_str (P := Try.prog) Try.underlying23 Try.underlying5 Try.underlying9 wr A3 z3 c3 x HZ3.out.2 (HBX.out.2.below hbk)
          clear hok hrq HE
          go_wp2_with (go_at_call 7; refine (live_from hbwk).mono ?_; rintro e Y2 ⟨rfl, hbZ⟩)
          go_ret
          exact ⟨rfl, hbZ⟩
end Go.Proofs.Ytommadcjemljcaa
