/- Layer 12: the walk of the law CheckScopes. -/
import Derived.Test.YthhindnjnijglaaChY
namespace Go.Proofs.Ythhindnjnijglaa
open Go.RowKit Go.Maps Go.WideMaps Go.Sort
set_option linter.unusedVariables false

def okC (c : UInt8) : Prop := (97 ≤ c.toNat ∧ c.toNat ≤ 122) ∨ (65 ≤ c.toNat ∧ c.toNat ≤ 90) ∨ (48 ≤ c.toNat ∧ c.toNat ≤ 57)
theorem byte_at {w : List UInt8} {j : Nat} (h : j < w.length) (hq : j < (⟨w.toArray⟩ : ByteArray).size) : (⟨w.toArray⟩ : ByteArray)[j]'hq = w[j] := by
  show w.toArray[j]'hq = w[j]
  simp
theorem joinA (s : List UInt8) : (⟨#[109, 97, 105, 110, 40, 41, 32, 45, 62, 32]⟩ : ByteArray) ++ ⟨s.toArray⟩ ++ ⟨#[10, 46]⟩ = ⟨(xA s).toArray⟩ := by
  apply ByteArray.ext
  apply Array.ext'
  simp [xA, lMain]
theorem joinB (s w : List UInt8) : (⟨#[109, 97, 105, 110, 40, 41, 32, 45, 62, 32]⟩ : ByteArray) ++ ⟨w.toArray⟩ ++ ⟨#[32, 61, 32, 49, 44, 32]⟩ ++ ⟨s.toArray⟩ ++ ⟨#[10, 44, 32]⟩ ++ ⟨w.toArray⟩ ++ ⟨#[46]⟩ = ⟨(xB s w).toArray⟩ := by
  apply ByteArray.ext
  apply Array.ext'
  simp [xB, lMain]
theorem joinC (s w : List UInt8) : (⟨#[109, 97, 105, 110, 40, 41, 32, 45, 62, 32, 99, 97, 115, 101, 32, 49, 32, 111, 102, 32]⟩ : ByteArray) ++ ⟨w.toArray⟩ ++ ⟨#[32, 45, 62, 32]⟩ ++ ⟨w.toArray⟩ ++ ⟨#[32, 101, 110, 100, 44, 32]⟩ ++ ⟨s.toArray⟩ ++ ⟨#[10, 44, 32]⟩ ++ ⟨w.toArray⟩ ++ ⟨#[46]⟩ = ⟨(xC s w).toArray⟩ := by
  apply ByteArray.ext
  apply Array.ext'
  simp [xC, lMain]
theorem vname_of {w : List UInt8} {len : Nat} {c : UInt8} (h1 : len ≤ 20) (h2 : w.length = len) (h3 : 0 < w.length) (h4 : w[0] = c) (h5 : 65 ≤ c.toNat ∧ c.toNat ≤ 90) (h6 : ∀ x ∈ w, okC x) : VName w where
  len := by omega
  first := by
    cases w with
    | nil => simp at h3
    | cons a r => exact ⟨a, r, rfl, by have : a = c := h4; rw [this]; exact h5.1, by have : a = c := h4; rw [this]; exact h5.2⟩
  all := fun x hx => by
    have := h6 x hx
    unfold okC at this
    simp only [morN, smaN, digN, greN, Bool.or_eq_true, Bool.and_eq_true, decide_eq_true_eq]
    omega
  noc := fun hx => by
    have h9 := h6 _ hx
    unfold okC at h9
    simp at h9
theorem VName.n95 {w : List UInt8} (h : VName w) : w ≠ [95] := by
  obtain ⟨c, r, rfl, h1, h2⟩ := h.first
  intro e
  simp only [List.cons.injEq] at e
  rw [e.1] at h2
  exact absurd h2 (by decide)
set_option maxRecDepth 100000 in
set_option maxHeartbeats 8000000 in
theorem scopes_any (s w : List UInt8) (W : World) :
    Calls Try.prog 3 #[.string ⟨s.toArray⟩, .string ⟨w.toArray⟩] W fun e w' => e = .returned (.bool true) ∧ Below W.heap.size W w' := by
  have HLV : Hid (∀ V, Calls Try.prog 4 #[] V fun r w' => r = .returned (.bool true) ∧ Below V.heap.size V w') := live_any
  by_cases hs : 1000 < s.length
  · have d1 : decide (1000 < (s.length : Int)) = true := by simp; omega
    clear hs
    go_enter Try.func3, Try.ntmps3
    go_wp2_with (go_at_call 4; refine (HLV.out _).mono ?_; rintro e w' ⟨rfl, hb9⟩)
    go_ret
    exact ⟨rfl, hb9⟩
  have d1 : decide (1000 < (s.length : Int)) = false := by simp; omega
  have HSL : Hid (s.length ≤ 1000) := by unfold Hid; omega
  clear hs
  obtain ⟨len, hlen⟩ : ∃ len, w.length = len := ⟨_, rfl⟩
  by_cases h1 : len < 1
  · have d2 : decide ((len : Int) < 1) = true := by simp; omega
    clear h1
    go_enter Try.func3, Try.ntmps3
    go_wp2_with (go_at_call 4; refine (HLV.out _).mono ?_; rintro e w' ⟨rfl, hb9⟩)
    go_ret
    exact ⟨rfl, hb9⟩
  have d2 : decide ((len : Int) < 1) = false := by simp; omega
  by_cases h2 : 20 < len
  · have d3 : decide (20 < (len : Int)) = true := by simp; omega
    clear h1 h2
    go_enter Try.func3, Try.ntmps3
    go_wp2_with (go_at_call 4; refine (HLV.out _).mono ?_; rintro e w' ⟨rfl, hb9⟩)
    go_ret
    exact ⟨rfl, hb9⟩
  have d3 : decide (20 < (len : Int)) = false := by simp; omega
  have hl0 : 0 < len := by omega
  have hwl : 0 < w.length := by omega
  obtain ⟨c, hc⟩ : ∃ c, w[0] = c := ⟨_, rfl⟩
  have hi0 : (⟨w.toArray⟩ : ByteArray)[0]'(by simpa [ByteArray.size] using hwl) = c := (byte_at hwl _).trans hc
  have HL2 : Hid (len ≤ 20) := by unfold Hid; omega
  have HC := Lib.hid hc
  clear h1 h2 hc
  by_cases h3 : c.toNat < 65
  · have d4 : decide ((c.toNat : Int) < 65) = true := by simp; omega
    clear h3
    go_enter Try.func3, Try.ntmps3
    go_wp2_with (go_at_call 4; refine (HLV.out _).mono ?_; rintro e w' ⟨rfl, hb9⟩)
    go_ret
    exact ⟨rfl, hb9⟩
  have d4 : decide ((c.toNat : Int) < 65) = false := by simp; omega
  by_cases h4 : 90 < c.toNat
  · have d5 : decide (90 < (c.toNat : Int)) = true := by simp; omega
    clear h4 h3
    go_enter Try.func3, Try.ntmps3
    go_wp2_with (go_at_call 4; refine (HLV.out _).mono ?_; rintro e w' ⟨rfl, hb9⟩)
    go_ret
    exact ⟨rfl, hb9⟩
  have d5 : decide (90 < (c.toNat : Int)) = false := by simp; omega
  have HCC : Hid (65 ≤ c.toNat ∧ c.toNat ≤ 90) := by unfold Hid; omega
  clear h3 h4
  obtain ⟨r, hr⟩ := exprP_has s
  obtain ⟨p, pe, pa⟩ := r
  have HEX : Hid (∀ V, Calls Try.prog 5 #[.string ⟨s.toArray⟩] V (XEnd V (p, pe, pa))) := fun V => expr_any V s _ hr
  have HNM := Lib.hid (exprP_names hr)
  have HR := Lib.hid hr
  clear hr
  go_enter Try.func3, Try.ntmps3
  go_upto_region 4 with (fail)
  go_loopw [5] (fun i wr => (∃ j : Nat, j ≤ len ∧ i = .int .i64 j ∧ Hid (∀ k (hk : k < w.length), k < j → okC w[k])) ∧ wr = W) (fun i _ => len - (intOf i).toNat)
  case atStart => exact ⟨⟨0, Nat.zero_le _, rfl, fun k hk hk0 => absurd hk0 (by omega)⟩, rfl⟩
  case round =>
    obtain ⟨⟨j, hj, rfl, HOK⟩, rfl⟩ := hrel
    by_cases hlt : j < len
    · have hd1 : decide (j < len) = true := by simpa using hlt
      have hd2 : decide ((j : Int) < (len : Int)) = true := by simpa using hlt
      have hjl : j < w.length := by omega
      obtain ⟨cj, hcj⟩ : ∃ cj, w[j] = cj := ⟨_, rfl⟩
      have hij : (⟨w.toArray⟩ : ByteArray)[j]'(by simpa [ByteArray.size] using hjl) = cj := (byte_at hjl _).trans hcj
      have HCJ := Lib.hid hcj
      have hq1 : (0 : Int) ≤ (j : Int) := by omega
      have hq2 : (j : Int) < (len : Int) := by omega
      clear hcj
      go_wp2_with (go_at_call 4; refine (HLV.out _).mono ?_; rintro e w' ⟨rfl, hb9⟩)
      all_goals first
        | (go_ret
           exact ⟨rfl, hb9⟩)
        | (have hl20 : len ≤ 20 := HL2.out
           have hw9 : wrap64 ((j : Int) + 1) = (j : Int) + 1 := by unfold wrap64; omega
           rw [hw9]
           go_roundw
           case rel =>
             refine ⟨⟨j + 1, by omega, by go_num, fun k hk hk1 => ?_⟩, trivial⟩
             by_cases hkj : k < j
             · exact HOK.out k hk hkj
             · obtain rfl : k = j := by omega
               rw [HCJ.out]
               unfold okC
               clear hij hi0
               simp only [Bool.not_eq_eq_eq_not, Bool.not_false, decide_eq_true_eq, decide_eq_false_iff_not] at *
               omega
           case measure => simp [intOf]; omega)
    · obtain rfl : j = len := by omega
      have hd1 : decide (j < j) = false := by simp
      have hd2 : decide ((j : Int) < (j : Int)) = false := by simp
      have HVN : Hid (∀ x ∈ w, okC x) := fun x hx => by
        obtain ⟨k, hk, rfl⟩ := List.mem_iff_getElem.1 hx
        exact HOK.out k hk (by omega)
      clear HOK
      go_upto_region 10 with (go_at_call 5; refine (HEX.out _).mono ?_; rintro e w9 ⟨x, hx, rfl, hok, hb9⟩; replace hx := Lib.hid hx)
      refine wp_world (fun V => Below wr.heap.size wr V ∧ Blk V w9.heap.size 26 #[.int .i64 x.t.kind, .int .i64 x.t.int, .string ⟨x.t.name.toArray⟩, .int .i64 x.t.at_, .slice x.A x.t.kids.length x.c, .slice x.B x.t.clauses.length x.d, .slice x.C x.t.body.length x.e] ∧ x.Ok NoB V) ⟨below_step hb9 (below_alloc _ _), Blk.new _ _ _, hok.move (.of_below (below_alloc _ _) (fun _ _ h => h.elim))⟩ ?_
      obtain ⟨b7, hb7⟩ : ∃ b7, w9.heap.size = b7 := ⟨_, rfl⟩
      rw [hb7]
      clear hok hb9 hb7 HEX
      rintro V1 ⟨hb1, hx1, hok1⟩
      have HB1 := Lib.hid hb1
      have HOK1 := Lib.hid hok1
      have c0 := hx1.cell 0
      have c1 := hx1.cell 1
      have c2 := hx1.cell 2
      have c3 := hx1.cell 3
      have c4 := hx1.cell 4
      have c5 := hx1.cell 5
      have c6 := hx1.cell 6
      clear hb1 hx1 hok1
      by_cases he : pe = 0
      rotate_left
      · have d6 : (pe != 0) = true := by simpa using he
        clear he
        go_wp2_with (go_at_call 4; refine (HLV.out _).mono ?_; rintro e w' ⟨rfl, hb9⟩)
        go_ret
        exact ⟨rfl, below_step HB1.out hb9⟩
      subst he
      have HVA : Hid (∀ V' g, Blk V' g 26 #[.int .i64 x.t.kind, .int .i64 x.t.int, .string ⟨x.t.name.toArray⟩, .int .i64 x.t.at_, .slice x.A x.t.kids.length x.c, .slice x.B x.t.clauses.length x.d, .slice x.C x.t.body.length x.e] → x.Ok NoB V' → Calls Try.prog 6 #[.slice (some ⟨g, 0, none⟩) 1 1] V' fun e w' => ∃ v, ∃ zs : List (List UInt8), e = .returned v ∧ (∀ y, y ∈ zs ↔ (y ≠ [95] ∧ occL y [p])) ∧ zs.length ≤ 20000 ∧ w'.ownsRow V'.heap.size 9 1 v zs.length (zs.map encStr) ∧ Below V'.heap.size V' w') := fun V' g hB hO => by
        have h9 := vars_any (K := namesP s) ⟨namesP_len s, namesP_text s⟩ (V := V') (l := [x.t]) (A := some ⟨g, 0, none⟩) (c := 1) ⟨by simp, by omega, .inr ⟨g, 0, rfl, fun h => h, (nd_row _ _ _).2 ⟨[x], rfl, by simpa using hO, fun j u hu => by rw [Nat.zero_add, hB.cell j]; simpa [flat, EN.cells] using hu⟩⟩⟩ (by simp only [ND.allL, and_true]; rw [hx.out]; exact HNM.out)
        rw [hx.out] at h9
        exact h9
      clear HNM
      go_upto_region 14 with (go_at_call 6; refine (HVA.out _ _ (Blk.new _ _ _) (HOK1.out.move (.of_below (below_alloc _ _) (fun _ _ h => h)))).mono ?_; rintro e V2 ⟨v, zs, rfl, hmem, hzl, hrow, hb2⟩; replace hmem := Lib.hid hmem; replace hzl := Lib.hid hzl; replace hrow := Lib.hid hrow; replace hb2 := Lib.hid hb2)
      have HB2 : Hid (Below wr.heap.size wr V2) := below_step (below_step HB1.out (below_alloc _ _)) hb2.out
      clear hb2 HB1 HOK1 HVA c0 c1 c2 c3 c4 c5 c6
      obtain ⟨zl, hzle⟩ : ∃ zl, zs.length = zl := ⟨_, rfl⟩
      obtain ⟨A0, c0, hv⟩ := own_form hrow.out
      rw [hzle] at hv
      have HROW := hrow
      have HZL := Lib.hid hzle
      have HZ2 : Hid (zl ≤ 20000) := by unfold Hid; rw [← hzle]; exact hzl.out
      subst hv
      clear hzle hzl hrow
      go_loopw [11] (fun i wq => (∃ j : Nat, j ≤ zl ∧ i = .int .i64 j ∧ Hid (∀ k (hk : k < zs.length), k < j → zs[k] ≠ w)) ∧ wq = V2) (fun i _ => zl - (intOf i).toNat)
      case atStart => exact ⟨⟨0, Nat.zero_le _, rfl, fun k hk hk0 => absurd hk0 (by omega)⟩, rfl⟩
      case round =>
        obtain ⟨⟨jj, hjj, rfl, HNE⟩, rfl⟩ := hrel
        by_cases hlt2 : jj < zl
        · have hd7 : decide (jj < zl) = true := by simpa using hlt2
          have hd8 : decide ((jj : Int) < (zl : Int)) = true := by simpa using hlt2
          have hjz : jj < zs.length := by rw [HZL.out]; exact hlt2
          obtain ⟨g, rfl⟩ : ∃ g, A0 = some ⟨g, 0, none⟩ := by
            rcases HROW.out.2 with ⟨_, h8⟩ | ⟨g, cap, cur, h9, _⟩
            · omega
            · exact ⟨g, by simpa using (Value.slice.inj h9).1⟩
          have hcell := HROW.out.cells (g := g) rfl jj (encStr zs[jj]) (by simp [hjz])
          rw [Addr.add_lit, Nat.zero_add] at hcell
          obtain ⟨zj, hzj⟩ : ∃ zj, zs[jj] = zj := ⟨_, rfl⟩
          rw [hzj] at hcell
          have HZJ := Lib.hid hzj
          have hq3 : (0 : Int) ≤ (jj : Int) := by omega
          have hq4 : (jj : Int) < (zl : Int) := by omega
          replace hcell : wr.cell? ⟨g, jj, none⟩ = some (.string ⟨zj.toArray⟩) := hcell
          clear hzj
          by_cases hz : zj = w
          · have hdz : (zj == w) = true := by simpa using hz
            clear hz
            go_wp2_with (go_at_call 4; refine (HLV.out _).mono ?_; rintro e w' ⟨rfl, hb9⟩)
            go_ret
            exact ⟨rfl, below_step HB2.out hb9⟩
          · have hdz : (zj == w) = false := by simpa using hz
            have HZ := Lib.hid hz
            clear hz
            go_wp2
            have hzl2 : zl ≤ 20000 := HZ2.out
            have hw9 : wrap64 ((jj : Int) + 1) = (jj : Int) + 1 := by unfold wrap64; omega
            try rw [hw9]
            go_roundw
            case rel =>
              refine ⟨⟨jj + 1, by omega, by go_num, fun k hk hk1 => ?_⟩, trivial⟩
              by_cases hkj : k < jj
              · exact HNE.out k hk hkj
              · obtain rfl : k = jj := by omega
                rw [HZJ.out]
                exact HZ.out
            case measure => simp [intOf]; omega
        · obtain rfl : jj = zl := by omega
          have hd7 : decide (jj < jj) = false := by simp
          have hd8 : decide ((jj : Int) < (jj : Int)) = false := by simp
          have HNO : Hid (w ∉ zs) := fun hx => by
            obtain ⟨k, hk, hkw⟩ := List.mem_iff_getElem.1 hx
            exact HNE.out k hk (by have := HZL.out; omega) hkw
          have hVN : VName w := vname_of HL2.out hlen hwl HC.out HCC.out HVN.out
          have HOC : Hid (¬ occN w p) := fun ho => HNO.out ((hmem.out w).2 ⟨hVN.n95, by simp only [occL, or_false]; exact ho⟩)
          obtain ⟨ta, b, xa, a1, a2, a3⟩ := one_a HR.out HSL.out
          obtain ⟨tb, b1, b2, b3, xb, q1, q2, q3, q4, q5⟩ := one_b HR.out HSL.out hVN
          obtain ⟨tc, c1, c2, c3, xc, r1, r2, r3, r4, r5⟩ := one_c HR.out HSL.out hVN
          obtain ⟨e0, e1, e2, e3⟩ := scopes (x := xa) (y := xb) (z := xc) hVN.n95 HOC.out a3 q3 q4 q5 r3 r4 r5
          obtain ⟨e4, he4⟩ : ∃ e4 : Int, (if e0 ≠ 0 then e0 else 124) = e4 := ⟨_, rfl⟩
          rw [he4] at e3
          have FA : Hid (∀ V, Calls Try.prog 7 #[.string ⟨(xA s).toArray⟩] V fun e w' => ∃ ca : Int, e = .returned (.tuple #[.int .i64 e0, .int .i64 ca]) ∧ Below V.heap.size V w') := fun V => (of_any a1 a2 V).mono fun e w' h9 => by rw [e1] at h9; exact ⟨_, h9.1, h9.2⟩
          have FB : Hid (∀ V, Calls Try.prog 7 #[.string ⟨(xB s w).toArray⟩] V fun e w' => ∃ ca : Int, e = .returned (.tuple #[.int .i64 e0, .int .i64 ca]) ∧ Below V.heap.size V w') := fun V => (of_any q1 q2 V).mono fun e w' h9 => by rw [e2] at h9; exact ⟨_, h9.1, h9.2⟩
          have FC : Hid (∀ V, Calls Try.prog 7 #[.string ⟨(xC s w).toArray⟩] V fun e w' => ∃ ca : Int, e = .returned (.tuple #[.int .i64 e4, .int .i64 ca]) ∧ Below V.heap.size V w') := fun V => (of_any r1 r2 V).mono fun e w' h9 => by rw [e3] at h9; exact ⟨_, h9.1, h9.2⟩
          have HE4 := Lib.hid he4
          clear e1 e2 e3 he4 a1 a2 a3 q1 q2 q3 q4 q5 r1 r2 r3 r4 r5 hVN HNE hmem HROW HZL HVN HNO HOC HCC HC HR hi0 hx
          have hsl : s.length ≤ 1000 := HSL.out
          have hjl : j ≤ 20 := HL2.out
          rw [← joinA] at FA
          rw [← joinB] at FB
          rw [← joinC] at FC
          go_upto_region 19 with (go_at_call 7; with_reducible refine (FA.out _).mono ?_; rintro e V3 ⟨ca, rfl, hb3⟩)
          clear FA
          go_upto_region 20 with (go_at_call 7; with_reducible refine (FB.out _).mono ?_; rintro e V4 ⟨cb, rfl, hb4⟩)
          clear FB
          go_upto_region 21 with (go_at_call 7; with_reducible refine (FC.out _).mono ?_; rintro e V5 ⟨cc, rfl, hb5⟩)
          clear FC
          have HBE := Lib.hid (below_step (below_step (below_step HB2.out hb3) hb4) hb5)
          clear hb3 hb4 hb5 HB2
          by_cases hm1 : e0 = -1
          · subst hm1
            obtain rfl : e4 = -1 := by rw [← HE4.out]; simp
            go_wp2_with (go_at_call 4; refine (HLV.out _).mono ?_; rintro e w' ⟨rfl, hb9⟩)
            go_ret
            exact ⟨rfl, below_step HBE.out hb9⟩
          by_cases hz0 : e0 = 0
          · subst hz0
            obtain rfl : e4 = 124 := by rw [← HE4.out]; simp
            go_wp2_with (go_at_call 4; refine (HLV.out _).mono ?_; rintro e w' ⟨rfl, hb9⟩)
            go_ret
            exact ⟨rfl, below_step HBE.out hb9⟩
          · obtain rfl : e4 = e0 := by rw [← HE4.out, if_pos hz0]
            have t1 : (e4 == -1) = false := by simpa using hm1
            have t2 : (e4 != 0) = true := by simpa using hz0
            clear hm1 hz0
            go_wp2_with (go_at_call 4; refine (HLV.out _).mono ?_; rintro e w' ⟨rfl, hb9⟩)
            go_ret
            exact ⟨rfl, below_step HBE.out hb9⟩
theorem checkScopes_v (s w : ByteArray) (W : World) : Calls Try.prog 3 #[.string s, .string w] W fun e w' => e = .returned (.bool true) ∧ Below W.heap.size W w' := by
  have := scopes_any s.data.toList w.data.toList W
  simpa using this
end Go.Proofs.Ythhindnjnijglaa
