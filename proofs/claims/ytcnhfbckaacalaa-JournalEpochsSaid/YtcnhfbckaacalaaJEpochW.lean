/- The walk of the statement JournalEpochs. -/
import Derived.Test.YtcnhfbckaacalaaJRoomW
import Derived.Test.YtcnhfbckaacalaaJouV
namespace Go.Proofs.Ytcnhfbckaacalaa
open Go.RowKit
set_option linter.unusedVariables false

set_option maxRecDepth 100000 in
set_option maxHeartbeats 4000000 in
theorem epochs_any (e : Int) (A : Option Addr) (n c : Nat) (l : List (List UInt8)) (B : Option Addr) (m c' : Nat) (l' : List (List UInt8)) (w : World) (he1 : -9223372036854775808 ≤ e) (he2 : e ≤ 9223372036854775807) (hl : l.length = n) (hnc : n ≤ c) (hc : c ≤ 9223372036854775807) (hr : RdL w A l) (ho : ∀ s ∈ l, s.length ≤ 140737488351232)
    (hl' : l'.length = m) (hmc : m ≤ c') (hc' : c' ≤ 9223372036854775807) (hr' : RdL w B l') (ho' : ∀ s ∈ l', s.length ≤ 140737488351232) :
    Calls Try.prog 7 #[.slice A n c, .slice B m c', .int .i64 e] w (Yes w) := by
  have HL := Lib.hid hl
  have HO := Lib.hid ho
  have HR := Lib.hid hr
  have HL' := Lib.hid hl'
  have HO' := Lib.hid ho'
  have HR' := Lib.hid hr'
  clear hl ho hr hl' ho' hr'
  by_cases hn : 120 < n
  · have d9 : decide ((120 : Int) < (n : Int)) = true := by simp; omega
    go_enter Try.func7, Try.ntmps7
    go_wp2
    go_loop [7, 8] (fun s i => ∃ k sm : Nat, k ≤ 121 ∧ sm ≤ k * 140737488351232 ∧ i = .int .i64 (k : Int) ∧ s = .int .i64 (sm : Int)) (fun _ i => 121 - (intOf i).toNat)
    case atStart => exact ⟨0, 0, by omega, by omega, rfl, rfl⟩
    case round =>
      obtain ⟨k, s0, hk2, hs0, rfl, rfl⟩ := hrel
      by_cases h120 : k ≤ 120
      · have d1 : decide (k < n) = true := by simp; omega
        have d2 : decide ((k : Int) ≤ 120) = true := by simp; omega
        have hkl : k < l.length := by rw [HL.out]; omega
        obtain ⟨b, off, B9, cB9, rfl, hcell, hrb⟩ := HR.out.at_ hkl
        have hbd := HO.out _ (List.getElem_mem hkl)
        generalize l[k].length = ln at *
        have q1 : IntKind.i64.wrap ((s0 : Int) + (ln : Int)) = (s0 : Int) + (ln : Int) := IntWalk.i64_in _ (by omega)
        have d0 : decide ((0 : Int) ≤ (k : Int)) = true := by simp
        clear hrb
        go_wp2
        go_round
        case rel => exact ⟨k + 1, s0 + ln, by omega, by omega, by go_num, by go_num⟩
        case measure => simp [intOf]; omega
      · by_cases hlt0 : k < n
        · have d1 : decide (k < n) = true := by simpa using hlt0
          have d2 : decide ((k : Int) ≤ 120) = false := by simp; omega
          go_upto_region 7 with (fail)
          go_loop [7, 9] (fun s i => ∃ j sm : Nat, j ≤ m ∧ j ≤ 121 ∧ sm ≤ (121 + j) * 140737488351232 ∧ i = .int .i64 (j : Int) ∧ s = .int .i64 (sm : Int)) (fun _ i => 121 - (intOf i).toNat)
          case atStart => exact ⟨0, s0, Nat.zero_le _, by omega, Nat.le_trans hs0 (Nat.mul_le_mul_right _ hk2), rfl, rfl⟩
          case round =>
            obtain ⟨j, sm, hj, hj2, hsm, rfl, rfl⟩ := hrel
            by_cases hlt : j < m
            · have d1 : decide (j < m) = true := by simpa using hlt
              by_cases h120 : j ≤ 120
              · have d2 : decide ((j : Int) ≤ 120) = true := by simp; omega
                have hkl : j < l'.length := by rw [HL'.out]; exact hlt
                obtain ⟨b, off, B9, cB9, rfl, hcell, hrb⟩ := HR'.out.at_ hkl
                have hbd := HO'.out _ (List.getElem_mem hkl)
                generalize l'[j].length = ln at *
                have q1 : IntKind.i64.wrap ((sm : Int) + (ln : Int)) = (sm : Int) + (ln : Int) := IntWalk.i64_in _ (by omega)
                have d0 : decide ((0 : Int) ≤ (j : Int)) = true := by simp
                clear hrb
                go_wp2
                go_round
                case rel => exact ⟨j + 1, sm + ln, by omega, by omega, by omega, by go_num, by go_num⟩
                case measure => simp [intOf]; omega
              · have d2 : decide ((j : Int) ≤ 120) = false := by simp; omega
                go_wp2_with (go_at_call 9; refine (live_any _).mono ?_; rintro r w1 ⟨rfl, hb9⟩)
                go_ret
                exact ⟨rfl, hb9⟩
            · have d1 : decide (j < m) = false := by simpa using hlt
              go_wp2_with (go_at_call 9; refine (live_any _).mono ?_; rintro r w1 ⟨rfl, hb9⟩)
              go_ret
              exact ⟨rfl, hb9⟩
        · have d1 : decide (k < n) = false := by simpa using hlt0
          go_upto_region 7 with (fail)
          go_loop [7, 9] (fun s i => ∃ j sm : Nat, j ≤ m ∧ j ≤ 121 ∧ sm ≤ (121 + j) * 140737488351232 ∧ i = .int .i64 (j : Int) ∧ s = .int .i64 (sm : Int)) (fun _ i => 121 - (intOf i).toNat)
          case atStart => exact ⟨0, s0, Nat.zero_le _, by omega, Nat.le_trans hs0 (Nat.mul_le_mul_right _ hk2), rfl, rfl⟩
          case round =>
            obtain ⟨j, sm, hj, hj2, hsm, rfl, rfl⟩ := hrel
            by_cases hlt : j < m
            · have d1 : decide (j < m) = true := by simpa using hlt
              by_cases h120 : j ≤ 120
              · have d2 : decide ((j : Int) ≤ 120) = true := by simp; omega
                have hkl : j < l'.length := by rw [HL'.out]; exact hlt
                obtain ⟨b, off, B9, cB9, rfl, hcell, hrb⟩ := HR'.out.at_ hkl
                have hbd := HO'.out _ (List.getElem_mem hkl)
                generalize l'[j].length = ln at *
                have q1 : IntKind.i64.wrap ((sm : Int) + (ln : Int)) = (sm : Int) + (ln : Int) := IntWalk.i64_in _ (by omega)
                have d0 : decide ((0 : Int) ≤ (j : Int)) = true := by simp
                clear hrb
                go_wp2
                go_round
                case rel => exact ⟨j + 1, sm + ln, by omega, by omega, by omega, by go_num, by go_num⟩
                case measure => simp [intOf]; omega
              · have d2 : decide ((j : Int) ≤ 120) = false := by simp; omega
                go_wp2_with (go_at_call 9; refine (live_any _).mono ?_; rintro r w1 ⟨rfl, hb9⟩)
                go_ret
                exact ⟨rfl, hb9⟩
            · have d1 : decide (j < m) = false := by simpa using hlt
              go_wp2_with (go_at_call 9; refine (live_any _).mono ?_; rintro r w1 ⟨rfl, hb9⟩)
              go_ret
              exact ⟨rfl, hb9⟩
  have d9 : decide ((120 : Int) < (n : Int)) = false := by simp; omega
  go_enter Try.func7, Try.ntmps7
  go_wp2
  go_loop [7, 8] (fun s i => ∃ k : Nat, k ≤ n ∧ i = .int .i64 (k : Int) ∧ s = .int .i64 (sumB (l.take k) : Int)) (fun _ i => 121 - (intOf i).toNat)
  case atStart => exact ⟨0, Nat.zero_le _, rfl, rfl⟩
  case round =>
    obtain ⟨k, hk, rfl, rfl⟩ := hrel
    by_cases hlt : k < n
    · have d1 : decide (k < n) = true := by simpa using hlt
      have d2 : decide ((k : Int) ≤ 120) = true := by simp; omega
      have hkl : k < l.length := by rw [HL.out]; exact hlt
      obtain ⟨b, off, B9, cB, rfl, hcell, hrb⟩ := HR.out.at_ hkl
      have HS := Lib.hid (show sumB (l.take (k + 1)) = sumB (l.take k) + l[k].length by rw [List.take_succ_eq_append_getElem hkl, sumB_snoc])
      have hbd := HO.out _ (List.getElem_mem hkl)
      have hsb := take_bound (k := k) HO.out (by omega)
      obtain ⟨ln, hln⟩ : ∃ ln, l[k].length = ln := ⟨_, rfl⟩
      rw [hln] at hcell HS hbd
      obtain ⟨sm, hsm⟩ : ∃ sm, sumB (l.take k) = sm := ⟨_, rfl⟩
      rw [hsm] at HS hsb ⊢
      have q1 : IntKind.i64.wrap ((sm : Int) + (ln : Int)) = (sm : Int) + (ln : Int) := IntWalk.i64_in _ (by omega)
      have d0 : decide ((0 : Int) ≤ (k : Int)) = true := by simp
      clear hln hsm hrb
      go_wp2
      go_round
      case rel => exact ⟨k + 1, by omega, by go_num, by rw [HS.out]; rfl⟩
      case measure => simp [intOf]; omega
    obtain rfl : k = n := by omega
    have d1 : decide (k < k) = false := by simp
    have hs9 := take_bound (k := k) HO.out (by omega)
    rw [List.take_of_length_le (by rw [HL.out]; exact Nat.le_refl _)] at hs9 ⊢
    obtain ⟨s0, hs0⟩ : ∃ s0, sumB l = s0 := ⟨_, rfl⟩
    rw [hs0] at hs9 ⊢
    go_upto_region 7 with (fail)
    by_cases hm : 120 < m
    · have d8 : decide ((120 : Int) < (m : Int)) = true := by simp; omega
      go_loop [7, 9] (fun s i => ∃ j sm : Nat, j ≤ m ∧ j ≤ 121 ∧ sm ≤ (121 + j) * 140737488351232 ∧ i = .int .i64 (j : Int) ∧ s = .int .i64 (sm : Int)) (fun _ i => 121 - (intOf i).toNat)
      case atStart => exact ⟨0, s0, Nat.zero_le _, by omega, hs9, rfl, rfl⟩
      case round =>
        obtain ⟨j, sm, hj, hj2, hsm, rfl, rfl⟩ := hrel
        by_cases hlt : j < m
        · have d1 : decide (j < m) = true := by simpa using hlt
          by_cases h120 : j ≤ 120
          · have d2 : decide ((j : Int) ≤ 120) = true := by simp; omega
            have hkl : j < l'.length := by rw [HL'.out]; exact hlt
            obtain ⟨b, off, B9, cB9, rfl, hcell, hrb⟩ := HR'.out.at_ hkl
            have hbd := HO'.out _ (List.getElem_mem hkl)
            generalize l'[j].length = ln at *
            have q1 : IntKind.i64.wrap ((sm : Int) + (ln : Int)) = (sm : Int) + (ln : Int) := IntWalk.i64_in _ (by omega)
            have d0 : decide ((0 : Int) ≤ (j : Int)) = true := by simp
            clear hrb
            go_wp2
            go_round
            case rel => exact ⟨j + 1, sm + ln, by omega, by omega, by omega, by go_num, by go_num⟩
            case measure => simp [intOf]; omega
          · have d2 : decide ((j : Int) ≤ 120) = false := by simp; omega
            go_wp2_with (go_at_call 9; refine (live_any _).mono ?_; rintro r w1 ⟨rfl, hb9⟩)
            go_ret
            exact ⟨rfl, hb9⟩
        · have d1 : decide (j < m) = false := by simpa using hlt
          go_wp2_with (go_at_call 9; refine (live_any _).mono ?_; rintro r w1 ⟨rfl, hb9⟩)
          go_ret
          exact ⟨rfl, hb9⟩
    have d8 : decide ((120 : Int) < (m : Int)) = false := by simp; omega
    go_loop [7, 9] (fun s i => ∃ j : Nat, j ≤ m ∧ i = .int .i64 (j : Int) ∧ s = .int .i64 ((s0 + sumB (l'.take j) : Nat) : Int)) (fun _ i => 121 - (intOf i).toNat)
    case atStart => exact ⟨0, Nat.zero_le _, rfl, rfl⟩
    case round =>
      obtain ⟨j, hj, rfl, rfl⟩ := hrel
      by_cases hlt2 : j < m
      · have d7 : decide (j < m) = true := by simpa using hlt2
        have d2 : decide ((j : Int) ≤ 120) = true := by simp; omega
        have hkl : j < l'.length := by rw [HL'.out]; exact hlt2
        obtain ⟨b, off, B9, cB, rfl, hcell, hrb⟩ := HR'.out.at_ hkl
        have HS := Lib.hid (show sumB (l'.take (j + 1)) = sumB (l'.take j) + l'[j].length by rw [List.take_succ_eq_append_getElem hkl, sumB_snoc])
        have hbd := HO'.out _ (List.getElem_mem hkl)
        have hsb := take_bound (k := j) HO'.out (by omega)
        obtain ⟨ln, hln⟩ : ∃ ln, l'[j].length = ln := ⟨_, rfl⟩
        rw [hln] at hcell HS hbd
        obtain ⟨sm, hsm⟩ : ∃ sm, s0 + sumB (l'.take j) = sm := ⟨_, rfl⟩
        have HS2 := Lib.hid (show s0 + sumB (l'.take (j + 1)) = sm + ln by rw [HS.out]; omega)
        have hsm2 : sm ≤ 242 * 140737488351232 := by omega
        rw [hsm] at ⊢
        have q1 : IntKind.i64.wrap ((sm : Int) + (ln : Int)) = (sm : Int) + (ln : Int) := IntWalk.i64_in _ (by omega)
        have d0 : decide ((0 : Int) ≤ (j : Int)) = true := by simp
        clear hln hsm hrb HS
        go_wp2
        go_round
        case rel => exact ⟨j + 1, by omega, by go_num, by rw [HS2.out]; rfl⟩
        case measure => simp [intOf]; omega
      obtain rfl : j = m := by omega
      have d7 : decide (j < j) = false := by simp
      rw [List.take_of_length_le (by rw [HL'.out]; exact Nat.le_refl _)]
      obtain ⟨sm, hsm⟩ : ∃ sm, s0 + sumB l' = sm := ⟨_, rfl⟩
      rw [hsm]
      by_cases b2 : 20000 < sm
      · have d4 : decide ((20000 : Int) < (sm : Int)) = true := by simp; omega
        go_wp2_with (go_at_call 9; refine (live_any _).mono ?_; rintro r w1 ⟨rfl, hb9⟩)
        go_ret
        exact ⟨rfl, hb9⟩
      have d4 : decide ((20000 : Int) < (sm : Int)) = false := by simp; omega
      by_cases b3 : e < 0
      · have d5 : decide (e < 0) = true := by simpa using b3
        go_wp2_with (go_at_call 9; refine (live_any _).mono ?_; rintro r w1 ⟨rfl, hb9⟩)
        go_ret
        exact ⟨rfl, hb9⟩
      have d5 : decide (e < 0) = false := by simpa using b3
      by_cases b4 : 1000 < e
      · have d6 : decide (1000 < e) = true := by simpa using b4
        go_wp2_with (go_at_call 9; refine (live_any _).mono ?_; rintro r w1 ⟨rfl, hb9⟩)
        go_ret
        exact ⟨rfl, hb9⟩
      have d6 : decide (1000 < e) = false := by simpa using b4
      have HSM : Hid (∀ s ∈ l, s.length ≤ 20000) := fun s hs => by have := sumB_mem hs; omega
      have HSM' : Hid (∀ s ∈ l', s.length ≤ 20000) := fun s hs => by have := sumB_mem hs; omega
      go_upto_region 12 with (fail)
      obtain ⟨ep, rfl⟩ := Int.eq_ofNat_of_zero_le (show 0 ≤ e by omega)
      have hep : ep ≤ 1000 := by omega
      have hn1 : k ≤ 120 := by omega
      have hm1 : j ≤ 120 := by omega
      clear d1 d4 d5 d6 d7 d8 d9 hsm hs0 b2 b3 b4 he1 he2
      have HN := Lib.hid (new_ok 12 64 w (by omega) (by omega) (by omega) (by omega))
      obtain ⟨r0, r1, h0⟩ := jon_fresh 2 8 ep 12 (by omega) (by omega)
      have HD0 := Lib.hid (DS.fresh_ok (nb := 12) (size := 64) (by omega) (by omega) (by omega) (by omega))
      obtain ⟨D0, hD0⟩ : ∃ D0, DS.fresh 12 64 = D0 := ⟨_, rfl⟩
      rw [hD0] at HN r0 h0 HD0
      have HR0 := Lib.hid r0
      have HR1 := Lib.hid r1
      have H0 := Lib.hid h0
      have HLG := Lib.hid (show D0.log.length = 0 by rw [← hD0]; rfl)
      clear hD0 r0 r1 h0
      go_upto_region 13 with (go_at_call 10; refine HN.out.mono ?_; rintro e w1 ⟨pd, p, rfl, hD1, hb1, hF1⟩)
      obtain ⟨pa, hpa⟩ : ∃ pa, w1.heap.size = pa := ⟨_, rfl⟩
      have hA2 : Blk (w1.alloc (.cells #[.int .i64 2, .int .i64 8] 34)) pa 34 #[.int .i64 2, .int .i64 8] := by rw [← hpa]; exact Blk.new _ _ _
      have hF2 : ∀ k, p.F pd k → w.heap.size ≤ k ∧ k < pa := fun k hk => ⟨hF1 k hk, by rw [← hpa]; exact hD1.lt k hk⟩
      have hpaw : w.heap.size ≤ pa := by rw [← hpa]; exact hb1.size
      go_upto_region 14 with (fail)
      refine wp_world (fun V => (DiskAt pd p D0 V ∧ Below w.heap.size w V) ∧ Blk V pa 34 #[.int .i64 2, .int .i64 8]) ⟨⟨hD1.keep (below_alloc _ _), below_step hb1 (below_alloc _ _)⟩, hA2⟩ ?_
      clear HN hA2 hF1 hD1 hb1 hpa
      rintro w2 ⟨⟨hD2, hb2⟩, hA2⟩
      have e0 : w2.cell? ⟨pa, 0, none⟩ = some (.int .i64 2) := hA2.cell 0
      have e1 : w2.cell? ⟨pa, 1, none⟩ = some (.int .i64 8) := hA2.cell 1
      have hpa2 := hA2.lt
      have HOP := Lib.hid (zopen_any hD2 HD0.out hb2 8 ep hA2 (fun k hk => ⟨(hF2 k hk).1, by have := (hF2 k hk).2; omega⟩) (by rw [H0.out.nb_]; omega) (by omega) (by omega) (by omega) H0.out.off HR0.out (by omega) HR1.out)
      clear hD2 hb2 hA2 hF2
      go_upto_region 15 with (go_at_call 12; refine HOP.out.mono ?_; rintro e w3 ⟨hb3, pj, v, A2, cA, vals, rfl, hZ3, hRc3⟩)
      have HZ3 := Lib.hid hZ3
      clear HOP hb3 hZ3 hRc3 e0 e1
      go_upto_region 18 with (go_at_call 11; refine (num_any _ _).mono ?_; rintro e w' ⟨rfl, rfl⟩)
      go_loopw [16] (fun i wr => ∃ (t : Nat) (v' : Value) (p' : Pl) (J : JV) (D : DS) (all : List (List UInt8)), t ≤ k ∧ i = .int .i64 (t : Int) ∧ JZ w pa 8 pj v' J pd p' D wr ∧ JOn 2 8 ep 1 12 D J all 0 ∧ D.log.length ≤ t * 8) (fun i _ => k - (intOf i).toNat)
      case atStart => exact ⟨0, v, p, _, D0, [], Nat.zero_le _, rfl, HZ3.out, H0.out, by rw [HLG.out]; omega⟩
      case round =>
        obtain ⟨t, v', p', J, D, all, ht, rfl, hZ, hO, hlg⟩ := hrel
        clear HZ3
        by_cases hlt2 : t < k
        · have d1 : decide (t < k) = true := by simpa using hlt2
          have hkl : t < l.length := by rw [HL.out]; exact hlt2
          obtain ⟨b, off, C, cC, rfl, hcell, hrc⟩ := (HR.out.below hZ.jd.bel).at_ hkl
          obtain ⟨s, hs⟩ : ∃ s, l[t] = s := ⟨_, rfl⟩
          have hsl : s.length ≤ 20000 := by rw [← hs]; exact HSM.out _ (List.getElem_mem hkl)
          rw [hs] at hcell hrc
          clear hs
          have d0 : decide ((0 : Int) ≤ (t : Int)) = true := by simp
          obtain ⟨e, J', D', all', hap, hO', hlg', _⟩ := hO.appAny hZ.jd.jok hZ.jd.ok (s := s) (by omega) (by omega)
          have HAP : Hid (Calls Try.prog 17 #[.pointer (some ⟨pj, 0, none⟩), .slice C s.length cC] wr fun r w' => r = .returned (.int .i64 (e : Int)) ∧ ∃ v'' p'', JZ w pa 8 pj v'' J' pd p'' D' w') := by
            have h9 := jappend_any hZ.jd.anew s C s.length cC rfl (by omega) hrc (by rw [hO.len_]; omega)
            rw [hap] at h9
            exact h9.mono fun r w' ⟨h1, v'', p'', h2⟩ => ⟨h1, v'', p'', hZ.act h2⟩
          obtain ⟨sl, hsle⟩ : ∃ sl, s.length = sl := ⟨_, rfl⟩
          rw [hsle] at hcell HAP
          have HO' := Lib.hid (And.intro hO' (show D'.log.length ≤ (t + 1) * 8 by omega))
          clear hap hZ hO hO' hrc hlg' hsle
          go_wp2_with (go_at_call 17; refine HAP.out.mono ?_; rintro r w9 ⟨rfl, v9, p9, hZ9⟩; (have HZ9 := Lib.hid hZ9); clear hZ9 HAP)
          go_roundw
          case rel => exact ⟨t + 1, v9, p9, J', D', all', by omega, by go_num, HZ9.out, HO'.out.1, HO'.out.2⟩
          case measure => simp [intOf]; omega
        obtain rfl : t = k := by omega
        have d1 : decide (t < t) = false := by simp
        obtain ⟨J2, D2, hF, hO2, hs2, hst2, hg2⟩ := hO.flush hZ.jd.jok hZ.jd.ok (by omega)
        have HF : Hid (Calls Try.prog 19 #[.pointer (some ⟨pj, 0, none⟩)] wr fun r w' => r = .returned (.int .i64 0) ∧ ∃ v'' p'', JZ w pa 8 pj v'' J2 pd p'' D2 w') := by
          have h9 := jflush_any hZ.jd.anew (by omega)
          rw [hF] at h9
          exact h9.mono fun r w' ⟨h1, v'', p'', h2⟩ => ⟨h1, v'', p'', hZ.act h2⟩
        have HB1 : Hid (∀ V v' p', JZ w pa 8 pj v' J2 pd p' D2 V → Calls Try.prog 25 #[.pointer (some ⟨pj, 0, none⟩), .int .i64 (ep : Int)] V fun r w' => r = .returned (.int .i64 2) ∧ ∃ v'' p'', JZ w pa 8 pj v'' J2 pd p'' D2 w') := fun V v' p' hV => by
          have h9 := jbegin_any hV.jd.anew (ep : Int)
          rw [hO2.beginNo (Int.le_refl _)] at h9
          exact h9.mono fun r w' ⟨h1, v'', p'', h2⟩ => ⟨h1, v'', p'', hV.act h2⟩
        have HB2 : Hid (∀ V v' p', JZ w pa 8 pj v' J2 pd p' D2 V → Calls Try.prog 25 #[.pointer (some ⟨pj, 0, none⟩), .int .i64 ((ep : Int) + 1)] V fun r w' => r = .returned (.int .i64 0) ∧ ∃ v'' p'', JZ w pa 8 pj v'' ⟨2, 8, ep + 1, 1, [], 0, 0, false⟩ pd p'' D2 w') := fun V v' p' hV => by
          have h9 := jbegin_any hV.jd.anew ((ep + 1 : Nat) : Int)
          rw [hO2.beginYes (by omega)] at h9
          exact h9.mono fun r w' ⟨h1, v'', p'', h2⟩ => ⟨h1, v'', p'', hV.act h2⟩
        have HO3 := Lib.hid hO2.begun
        have hlg2 : D2.log.length ≤ 961 := by omega
        have q1 : IntKind.i64.wrap ((ep : Int) + 1) = (ep : Int) + 1 := IntWalk.i64_in _ (by omega)
        clear hF hZ hO hO2 hs2 hst2 hg2
        go_upto_region 25 with (first
          | (go_at_call 11; refine (num_any _ _).mono ?_; rintro e w' ⟨rfl, rfl⟩)
          | (go_at_call 19; refine HF.out.mono ?_; rintro r w9 ⟨rfl, v9, p9, hZ9⟩)
          | (go_at_call 25; refine (HB2.out _ _ _ hZ10).mono ?_; rintro r w11 ⟨rfl, v11, p11, hZ11⟩; (have HUS : Hid (Calls Try.prog 15 #[.pointer (some ⟨pj, 0, none⟩)] w11 fun e w' => e = .returned (.int .i64 0) ∧ w11 = w') := jused_any hZ11.jd); (have HRE : Hid (Calls Try.prog 20 #[.pointer (some ⟨pj, 0, none⟩)] w11 fun e w' => e = .returned (.int .i64 0) ∧ w11 = w') := jrecords_any hZ11.jd); (have HZ11 := Lib.hid hZ11); clear hZ11 hZ10)
          | (go_at_call 25; refine (HB1.out _ _ _ hZ9).mono ?_; rintro r w10 ⟨rfl, v10, p10, hZ10⟩; clear hZ9)
          | (go_at_call 15; refine HUS.out.mono ?_; rintro e w' ⟨rfl, rfl⟩)
          | (go_at_call 20; refine HRE.out.mono ?_; rintro e w' ⟨rfl, rfl⟩))
        have hpa11 := HZ11.out.area.lt
        go_loopw [17, 18] (fun u i wr => ∃ (t2 : Nat) (v' : Value) (p' : Pl) (J : JV) (D : DS) (all : List (List UInt8)), t2 ≤ j ∧ i = .int .i64 (t2 : Int) ∧ (JZ w pa 8 pj v' J pd p' D wr ∧ Want (pa + 1) wr u all pd p' pj v') ∧ JOn 2 8 (ep + 1) 1 12 D J all 0 ∧ D.log.length ≤ 961 + t2 * 8 ∧ all.length ≤ t2) (fun _ i _ => j - (intOf i).toNat)
        case atStart => exact ⟨0, v11, p11, _, D2, [], Nat.zero_le _, rfl, ⟨HZ11.out, Want.nil_ _ _ _ _ _ _⟩, HO3.out, by omega, Nat.le_refl _⟩
        case round =>
          obtain ⟨t2, v', p', J, D, all, ht2, rfl, ⟨hZ, hW⟩, hO, hlg, hall⟩ := hrel
          clear HZ11 hpa11
          by_cases hlt3 : t2 < j
          · have d1 : decide (t2 < j) = true := by simpa using hlt3
            have hkl : t2 < l'.length := by rw [HL'.out]; exact hlt3
            obtain ⟨b, off, C, cC, rfl, hcell, hrc⟩ := (HR'.out.below hZ.jd.bel).at_ hkl
            obtain ⟨s, hs⟩ : ∃ s, l'[t2] = s := ⟨_, rfl⟩
            have hsl : s.length ≤ 20000 := by rw [← hs]; exact HSM'.out _ (List.getElem_mem hkl)
            have HAT : Hid (∀ V, Below w.heap.size w V → ∃ C' cC', V.cell? ⟨b, off + t2, none⟩ = some (.slice C' s.length cC') ∧ Rd V C' s) := fun V hV => by
              obtain ⟨b9, off9, C', cC', e9, h1, h2⟩ := (HR'.out.below hV).at_ hkl
              injection e9 with e9
              injection e9 with e9 e8
              subst e9 e8
              rw [hs] at h1 h2
              exact ⟨C', cC', h1, h2⟩
            rw [hs] at hcell hrc
            clear hs
            have d0 : decide ((0 : Int) ≤ (t2 : Int)) = true := by simp
            obtain ⟨e, J', D', all', hap, hO', hlg', he9, hal1, hal2⟩ := hO.appAny hZ.jd.jok hZ.jd.ok (s := s) (by omega) (by omega)
            have HAP : Hid (Calls Try.prog 17 #[.pointer (some ⟨pj, 0, none⟩), .slice C s.length cC] wr fun r w' => r = .returned (.int .i64 (e : Int)) ∧ ∃ v'' p'', JZ w pa 8 pj v'' J' pd p'' D' w' ∧ Want (pa + 1) w' u17 all pd p'' pj v'') := by
              have h9 := jappend_any hZ.jd.anew s C s.length cC rfl (by omega) hrc (by rw [hO.len_]; omega)
              rw [hap] at h9
              exact h9.mono fun r w' ⟨h1, v'', p'', h2⟩ => ⟨h1, v'', p'', hZ.act h2, hW.act h2⟩
            obtain ⟨sl, hsle⟩ : ∃ sl, s.length = sl := ⟨_, rfl⟩
            rw [hsle] at hcell HAP HAT
            have HO' := Lib.hid (And.intro hO' (show D'.log.length ≤ 961 + (t2 + 1) * 8 by omega))
            have HSL := Lib.hid hsle
            clear hap hZ hO hO' hrc hlg' hsle hW
            rcases he9 with rfl | rfl
            · obtain rfl := hal1 rfl
              clear hal1 hal2
              go_upto_region 28 with (first
                | (go_at_call 11; refine (num_any _ _).mono ?_; rintro e w' ⟨rfl, rfl⟩)
                | (go_at_call 17; refine HAP.out.mono ?_; rintro r w9 ⟨rfl, v9, p9, hZ9, hW9⟩))
              obtain ⟨C9, c9, hcell9, hrc9⟩ := HAT.out w9 hZ9.jd.bel
              have hst := run_str (P := Try.prog) Try.underlying23 Try.underlying5 Try.underlying9 w9 C9 sl c9 s HSL.out hrc9
              have hbA := below_alloc w9 (.cells #[.string ⟨s.toArray⟩] 9)
              have HA : Hid (JZ w pa 8 pj v9 J' pd p9 D' (w9.alloc (.cells #[.string ⟨s.toArray⟩] 9)) ∧ Want (pa + 1) (w9.alloc (.cells #[.string ⟨s.toArray⟩] 9)) u17 all pd p9 pj v9) := ⟨hZ9.keep hbA, hW9.keep hbA⟩
              have hbs : pa + 1 ≤ (w9.alloc (.cells #[.string ⟨s.toArray⟩] 9)).heap.size := by have := hZ9.area.lt; have := hbA.size; omega
              have hone := one_cell_t s
              have hmx : all.length + 1 ≤ maxLen := by simp only [maxLen]; omega
              have hbx : (all.length + 1) * 16 ≤ 140737488355328 := by omega
              have hcs : Cs (w9.alloc (.cells #[.string ⟨s.toArray⟩] 9)) (some ⟨w9.heap.size, 0, none⟩) [tv s] := cs_tv w9 s
              clear hZ9 hW9 hrc9 hcell hbA HAP
              go_wp2_with (at_builtin; (with_reducible refine wpList_app textsT rfl (.tmp 158) (.tmp 164) rfl (pa + 1) u17 all.length (all.map tv) rfl HA.out.2.own (some ⟨w9.heap.size, 0, none⟩) 1 1 [tv s] rfl rfl hcs hone hmx hbx hbs ?_); intro v12 w12 ho12 hg12 hw12)
              have HE : Hid (JZ w pa 8 pj v9 J' pd p9 D' w12 ∧ Want (pa + 1) w12 v12 (all ++ [s]) pd p9 pj v9) := ⟨HA.out.1.grown hg12 (fun g hg => ⟨HA.out.2.sep g hg, by have := (World.ownsRow.lt HA.out.2.own g hg).1; omega, by have := (World.ownsRow.lt HA.out.2.own g hg).1; omega⟩), HA.out.2.app HA.out.1.jd hg12 ho12 hw12⟩
              clear ho12 hg12 hw12 hcs hone
              go_roundw
              case rel => exact ⟨t2 + 1, v9, p9, J', D', all ++ [s], by omega, by go_num, HE.out, HO'.out.1, HO'.out.2, by rw [List.length_append]; simp; omega⟩
              case measure => simp [intOf]; omega
            · obtain rfl := hal2 (by omega)
              clear hal1 hal2
              go_wp2_with (first
                | (go_at_call 11; refine (num_any _ _).mono ?_; rintro e w' ⟨rfl, rfl⟩)
                | (go_at_call 17; refine HAP.out.mono ?_; rintro r w9 ⟨rfl, v9, p9, hZ9, hW9⟩; (have HE := Lib.hid (And.intro hZ9 hW9)); clear hZ9 hW9 HAP))
              go_roundw
              case rel => exact ⟨t2 + 1, v9, p9, J', D', all', by omega, by go_num, HE.out, HO'.out.1, HO'.out.2, by omega⟩
              case measure => simp [intOf]; omega
          obtain rfl : t2 = j := by omega
          have d1 : decide (t2 < t2) = false := by simp
          obtain ⟨J4, D4, hF, hO4, -, -, hg4⟩ := hO.flush hZ.jd.jok hZ.jd.ok (by omega)
          have HF : Hid (Calls Try.prog 19 #[.pointer (some ⟨pj, 0, none⟩)] wr fun r w' => r = .returned (.int .i64 0) ∧ ∃ v'' p'', JZ w pa 8 pj v'' J4 pd p'' D4 w' ∧ Want (pa + 1) w' u17 all pd p'' pj v'') := by
            have h9 := jflush_any hZ.jd.anew (by omega)
            rw [hF] at h9
            exact h9.mono fun r w' ⟨h1, v'', p'', h2⟩ => ⟨h1, v'', p'', hZ.act h2, hW.act h2⟩
          obtain ⟨Au, cu, hu, -, -⟩ := own_rdt hW.own
          subst hu
          have HO4 := Lib.hid hO4
          have q2 : IntKind.i64.wrap ((ep : Int) + 2) = (ep : Int) + 2 := IntWalk.i64_in _ (by omega)
          clear hF hO hO4 hZ hW hlg hg4
          go_upto_region 31 with (first
            | (go_at_call 11; refine (num_any _ _).mono ?_; rintro e w' ⟨rfl, rfl⟩)
            | (go_at_call 19; refine HF.out.mono ?_; rintro r w9 ⟨rfl, v9, p9, hZ9, hW9⟩))
          obtain ⟨RS, lf, kk, o1, o2, o3, o4, o5, o6⟩ := HO4.out.opened hZ9.jd.jok
          obtain rfl : kk = all.length := by omega
          rw [List.take_of_length_le (Nat.le_refl _)] at o3
          have HOP : Hid (Calls Try.prog 12 #[.pointer (some ⟨pd, 0, none⟩), .agg #[.int .i64 2, .int .i64 8], .int .i64 ((ep : Int) + 1)] w9 (ZOpened w pa 8 w9 pd p9 D4 ⟨2, 8, ep + 1, lf + 1, RS.take (laidSs all).length, (laidSs all).length, all.length, false⟩ all)) := zopen_any hZ9.jd.disk hZ9.jd.ok hZ9.jd.bel 8 (ep + 1) hZ9.area hZ9.fresh (by rw [HO4.out.nb_]; omega) (by omega) (by omega) (by omega) HO4.out.off o1 (by omega) o3
          obtain ⟨e0, e1⟩ := hZ9.cells
          have HZ9 := Lib.hid (And.intro hZ9 hW9)
          clear o1 o2 o3 o4 o5 o6 hZ9 hW9 HF
          go_upto_region 32 with (go_at_call 12; refine HOP.out.mono ?_; rintro r w13 ⟨hb13, pk, v13, A13, c13, vals13, rfl, hZ13, hRc13⟩)
          obtain ⟨x1, x2⟩ := HO4.out.blank (e := ep + 2) (by omega)
          have HOP2 : Hid (Calls Try.prog 12 #[.pointer (some ⟨pd, 0, none⟩), .agg #[.int .i64 2, .int .i64 8], .int .i64 ((ep : Int) + 2)] w13 (ZOpened w pa 8 w13 pd p9 D4 ⟨2, 8, ep + 2, 1, [], 0, 0, false⟩ [])) := zopen_any hZ13.jd.disk hZ13.jd.ok hZ13.jd.bel 8 (ep + 2) hZ13.area hZ13.fresh (by rw [HO4.out.nb_]; omega) (by omega) (by omega) (by omega) HO4.out.off x1 (by omega) x2
          have HW13 := Lib.hid (HZ9.out.2.keep hb13)
          have HR13 := Lib.hid hRc13
          obtain ⟨e0, e1⟩ := hZ13.cells
          clear x1 x2 hZ13 hRc13 HOP HZ9 hb13
          go_upto_region 33 with (go_at_call 12; refine HOP2.out.mono ?_; rintro r w14 ⟨hb14, pq, v14, A14, c14, vals14, rfl, hZ14, hRc14⟩)
          obtain ⟨Au2, cu2, hu2, hru, hlu⟩ := own_rdt (HW13.out.keep hb14).own
          have hu3 : Au = Au2 := by injection hu2
          subst hu3
          have HSA := Lib.hid (same_any A13 Au all.length c13 all.length cu all all w14 rfl rfl ((HR13.out.keep hb14).rdl) hru (by omega))
          have HBL := Lib.hid hZ14.jd.bel
          rw [decide_eq_true (rfl : all = all)] at HSA
          clear hZ14 hRc14 HOP2 HW13 HR13 hb14 hu2 hru
          go_wp2_with (first
            | (go_at_call 11; refine (num_any _ _).mono ?_; rintro e w' ⟨rfl, rfl⟩)
            | (go_at_call 21; refine HSA.out.mono ?_; rintro r w15 ⟨rfl, q15, rfl⟩)
            | (go_at_call 9; refine (live_from (below_drewN HBL.out _)).mono ?_; rintro r w1 ⟨rfl, hb9⟩))
          go_ret
          exact ⟨rfl, hb9⟩
end Go.Proofs.Ytcnhfbckaacalaa
