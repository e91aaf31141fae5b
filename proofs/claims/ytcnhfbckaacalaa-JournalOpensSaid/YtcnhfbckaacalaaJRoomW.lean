/- The walk of the statement JournalRoom. -/
import Derived.Test.YtcnhfbckaacalaaJNilW
import Derived.Test.YtcnhfbckaacalaaLibI
namespace Go.Proofs.Ytcnhfbckaacalaa
open Go.RowKit
set_option linter.unusedVariables false

/-- The bytes of the first 121. -/
def sumB (l : List (List UInt8)) : Nat := (l.map List.length).sum
theorem sumB_snoc (l : List (List UInt8)) (s : List UInt8) : sumB (l ++ [s]) = sumB l + s.length := by simp [sumB]
theorem sumB_le : ∀ {l : List (List UInt8)} {m : Nat}, (∀ s ∈ l, s.length ≤ m) → sumB l ≤ l.length * m
  | [], m, _ => by simp [sumB]
  | s :: l, m, h => by
    have h1 := sumB_le (l := l) (m := m) (fun x hx => h x (List.mem_cons_of_mem _ hx))
    have h2 := h s (by simp)
    have h3 : sumB (s :: l) = s.length + sumB l := by simp [sumB]
    rw [h3, List.length_cons, Nat.succ_mul]; omega
theorem sumB_mem {l : List (List UInt8)} {s : List UInt8} (h : s ∈ l) : s.length ≤ sumB l := by
  induction l with
  | nil => cases h
  | cons x l ih =>
    have h3 : sumB (x :: l) = x.length + sumB l := by simp [sumB]
    rcases List.mem_cons.1 h with rfl | h
    · omega
    · have := ih h; omega
theorem take_bound {l : List (List UInt8)} {m k : Nat} (h : ∀ s ∈ l, s.length ≤ m) (hk : k ≤ 121) : sumB (l.take k) ≤ 121 * m := by
  have h1 := sumB_le (l := l.take k) (m := m) (fun s hs => h s (List.mem_of_mem_take hs))
  rw [List.length_take] at h1
  exact Nat.le_trans h1 (Nat.mul_le_mul_right _ (by omega))

theorem widF_up : ∀ (k m : Nat), m < 256 ^ k → widF (k + 1) m = widF k m
  | 0, m, h => by
    obtain rfl : m = 0 := by simpa using h
    rfl
  | k + 1, m, h => by
    have e1 : widF (k + 1 + 1) m = if m = 0 then 0 else widF (k + 1) (m / 256) + 1 := rfl
    have e2 : widF (k + 1) m = if m = 0 then 0 else widF k (m / 256) + 1 := rfl
    rw [e1, e2]
    by_cases h0 : m = 0
    · rw [if_pos h0, if_pos h0]
    · rw [if_neg h0, if_neg h0, widF_up k (m / 256) (by rw [Nat.pow_succ] at h; omega)]
theorem wid_step {m : Nat} (h : m < 256 ^ 8) : wid m = if m = 0 then 0 else wid (m / 256) + 1 := by
  have h7 : widF 8 (m / 256) = widF 7 (m / 256) := widF_up 7 _ (by rw [Nat.pow_succ] at h; omega)
  unfold wid
  rw [h7, widF]
theorem laidS_len (s : List UInt8) : (laidS s).length = s.length + 1 + wid s.length := by
  unfold laidS
  rw [List.length_append, laidB_len]; omega
theorem rroom64 (w : World) : Calls Try.prog 14 #[.int .i64 64] w fun e w' => e = .returned (.int .i64 49) ∧ w = w' := by
  go_enter Try.func14, Try.ntmps14
  go_wp2
  go_ret
  exact ⟨rfl, rfl⟩
/-- What Append says, in the law's words. -/
theorem room_app {bl nb : Nat} {D : DS} {J : JV} {all : List (List UInt8)} (h : JOn 2 bl 0 1 nb D J all 0) (hj : JOk J D) (ok : D.Ok) {s : List UInt8} (hs : s.length ≤ 20000) (hlg : D.log.length + bl ≤ 1000000) :
    (J.left D < (laidS s).length ∧ J.app D s = (60, J, D)) ∨
    ((laidS s).length ≤ J.left D ∧ ∃ J' D', J.app D s = (0, J', D') ∧ JOn 2 bl 0 1 nb D' J' (all ++ [s]) 0 ∧ J'.stream.length = J.stream.length + (laidS s).length ∧ J'.left D' + (laidS s).length = J.left D ∧ D'.log.length ≤ D.log.length + bl) := by
  rcases h.app hj ok (p := s) (by omega) hlg with h1 | ⟨h1, J', D', h2, h3, h4, h5, h6⟩
  · exact .inl h1
  · have e : J'.stream.length = J.stream.length + (laidS s).length := by rw [h4, List.length_append]
    refine .inr ⟨h1, J', D', h2, h3, e, ?_, h5⟩
    rw [h3.left_, e]
    rw [h.left_] at h1 ⊢
    omega
set_option maxRecDepth 100000 in
set_option maxHeartbeats 2000000 in
theorem room_law_any (bl : Int) (A : Option Addr) (n c : Nat) (l : List (List UInt8)) (w : World) (hb1 : -9223372036854775808 ≤ bl) (hb2 : bl ≤ 9223372036854775807) (hl : l.length = n) (hnc : n ≤ c) (hc : c ≤ 9223372036854775807) (hr : RdL w A l) (ho : ∀ s ∈ l, s.length ≤ 140737488351232) :
    Calls Try.prog 3 #[.int .i64 bl, .slice A n c] w (Yes w) := by
  have HL := Lib.hid hl
  have HO := Lib.hid ho
  have HR := Lib.hid hr
  clear hl ho hr
  go_enter Try.func3, Try.ntmps3
  go_wp2
  go_loop [5, 6] (fun s i => ∃ k : Nat, k ≤ n ∧ k ≤ 121 ∧ i = .int .i64 (k : Int) ∧ s = .int .i64 (sumB (l.take k) : Int)) (fun _ i => 121 - (intOf i).toNat)
  case atStart => exact ⟨0, Nat.zero_le _, by omega, rfl, rfl⟩
  case round =>
    obtain ⟨k, hk, hk2, rfl, rfl⟩ := hrel
    by_cases hlt : k < n
    · have d1 : decide (k < n) = true := by simpa using hlt
      by_cases h120 : k ≤ 120
      · have d2 : decide ((k : Int) ≤ 120) = true := by simp; omega
        have hkl : k < l.length := by rw [HL.out]; exact hlt
        obtain ⟨b, off, B, cB, rfl, hcell, hrb⟩ := HR.out.at_ hkl
        have HS := Lib.hid (show sumB (l.take (k + 1)) = sumB (l.take k) + l[k].length by rw [List.take_succ_eq_append_getElem hkl, sumB_snoc])
        have hbd := HO.out _ (List.getElem_mem hkl)
        have hsb := take_bound (k := k) HO.out (by omega)
        obtain ⟨ln, hln⟩ : ∃ ln, l[k].length = ln := ⟨_, rfl⟩
        rw [hln] at hcell HS hbd
        obtain ⟨sm, hsm⟩ : ∃ sm, sumB (l.take k) = sm := ⟨_, rfl⟩
        rw [hsm] at HS hsb ⊢
        have q1 : IntKind.i64.wrap ((sm : Int) + (ln : Int)) = (sm : Int) + (ln : Int) := IntWalk.i64_in _ (by omega)
        have d0 : decide ((0 : Int) ≤ (k : Int)) = true := by simp
        clear hln hsm hrb
        go_wp2
        go_round
        case rel => exact ⟨k + 1, by omega, by omega, by go_num, by rw [HS.out]; rfl⟩
        case measure => simp [intOf]; omega
      · have d2 : decide ((k : Int) ≤ 120) = false := by simp; omega
        have d3 : decide ((120 : Int) < (n : Int)) = true := by simp; omega
        go_wp2_with (go_at_call 9; refine (live_any _).mono ?_; rintro r w1 ⟨rfl, hb9⟩)
        go_ret
        exact ⟨rfl, hb9⟩
    · obtain rfl : k = n := by omega
      have d1 : decide (k < k) = false := by simp
      rw [List.take_of_length_le (by rw [HL.out]; exact Nat.le_refl _)]
      obtain ⟨sm, hsm⟩ : ∃ sm, sumB l = sm := ⟨_, rfl⟩
      rw [hsm]
      by_cases b1 : 120 < k
      · have d3 : decide ((120 : Int) < (k : Int)) = true := by simp; omega
        go_wp2_with (go_at_call 9; refine (live_any _).mono ?_; rintro r w1 ⟨rfl, hb9⟩)
        go_ret
        exact ⟨rfl, hb9⟩
      have d3 : decide ((120 : Int) < (k : Int)) = false := by simp; omega
      by_cases b2 : 20000 < sm
      · have d4 : decide ((20000 : Int) < (sm : Int)) = true := by simp; omega
        go_wp2_with (go_at_call 9; refine (live_any _).mono ?_; rintro r w1 ⟨rfl, hb9⟩)
        go_ret
        exact ⟨rfl, hb9⟩
      have d4 : decide ((20000 : Int) < (sm : Int)) = false := by simp; omega
      by_cases b3 : bl < 1
      · have d5 : decide (bl < 1) = true := by simpa using b3
        go_wp2_with (go_at_call 9; refine (live_any _).mono ?_; rintro r w1 ⟨rfl, hb9⟩)
        go_ret
        exact ⟨rfl, hb9⟩
      have d5 : decide (bl < 1) = false := by simpa using b3
      by_cases b4 : 10 < bl
      · have d6 : decide (10 < bl) = true := by simpa using b4
        go_wp2_with (go_at_call 9; refine (live_any _).mono ?_; rintro r w1 ⟨rfl, hb9⟩)
        go_ret
        exact ⟨rfl, hb9⟩
      have d6 : decide (10 < bl) = false := by simpa using b4
      have HSM : Hid (∀ s ∈ l, s.length ≤ 20000) := fun s hs => by have := sumB_mem hs; omega
      go_upto_region 8 with (fail)
      obtain ⟨bn, rfl⟩ := Int.eq_ofNat_of_zero_le (show 0 ≤ bl by omega)
      have hbn1 : 1 ≤ bn := by omega
      have hbn2 : bn ≤ 10 := by omega
      have hb12 : k ≤ 120 := by omega
      clear d1 d3 d4 d5 d6 hsm b1 b2 b3 b4 hb1 hb2
      have HN := Lib.hid (new_ok 12 64 w (by omega) (by omega) (by omega) (by omega))
      obtain ⟨r0, r1, h0⟩ := jon_fresh 2 bn 0 12 (by omega) (by omega)
      have HD0 := Lib.hid (DS.fresh_ok (nb := 12) (size := 64) (by omega) (by omega) (by omega) (by omega))
      obtain ⟨D0, hD0⟩ : ∃ D0, DS.fresh 12 64 = D0 := ⟨_, rfl⟩
      rw [hD0] at HN r0 h0 HD0
      have HR0 := Lib.hid r0
      have HR1 := Lib.hid r1
      have H0 := Lib.hid h0
      have HLG := Lib.hid (show D0.log.length = 0 by rw [← hD0]; rfl)
      clear hD0 r0 r1 h0
      go_upto_region 11 with (first
        | (go_at_call 10; refine HN.out.mono ?_; rintro e w1 ⟨pd, p, rfl, hD1, hb1, hF1⟩)
        | (go_at_call 11; refine (num_any _ _).mono ?_; rintro e w' ⟨rfl, rfl⟩))
      have HOP := Lib.hid (jopened_any (w0 := bas w) hD1 HD0.out (Fr.of_below hb1 _) (fun k hk => .inl (hF1 k hk)) 2 bn 0 (by rw [H0.out.nb_]; omega) hbn1 (by omega) (by omega) H0.out.off HR0.out (by omega) HR1.out)
      clear hD1 hb1 hF1 HN
      go_upto_region 12 with (go_at_call 12; refine HOP.out.mono ?_; rintro e w2 ⟨hb2, pj, v, A2, cA, vals, rfl, hpj, hJ2, hRc2⟩)
      refine wp_world (fun V => JD w pj v ⟨2, bn, 0, 1, [], 0, 0, false⟩ pd p D0 V) hJ2 ?_
      clear HOP hb2 hpj hJ2 hRc2
      intro w3 hJ3
      have HLF : Hid (Calls Try.prog 13 #[.pointer (some ⟨pj, 0, none⟩)] w3 fun e w' => e = .returned (.int .i64 ((bn * 49 : Nat) : Int)) ∧ ∃ q, w' = w3.drewN q) := by
        have h9 := jleft_any hJ3
        rw [H0.out.left_] at h9
        exact h9
      have q2 : IntKind.i64.wrap ((bn : Int) * 49) = (bn : Int) * 49 := IntWalk.i64_in _ (by omega)
      have d7 : (((bn * 49 : Nat) : Int) != (bn : Int) * 49) = false := by simp
      have HJ3 := Lib.hid (fun q => hJ3.drewN q)
      clear hJ3
      go_upto_region 15 with (first
        | (go_at_call 13; refine HLF.out.mono ?_; rintro e w' ⟨rfl, q4, rfl⟩)
        | (go_at_call 14; refine (rroom64 _).mono ?_; rintro e w' ⟨rfl, rfl⟩)
        | (go_at_call 11; refine (num_any _ _).mono ?_; rintro e w' ⟨rfl, rfl⟩))
      refine wp_world (fun V => JD w pj v ⟨2, bn, 0, 1, [], 0, 0, false⟩ pd p D0 V) (HJ3.out _) ?_
      clear HLF q2 d7 HJ3
      intro w5 hJ5
      have HJ5 := Lib.hid hJ5
      clear hJ5
      go_loopw [12, 13, 14, 15, 16, 17, 18] (fun i _ _ _ _ _ _ wr => ∃ (m : Nat) (v' : Value) (p' : Pl) (J : JV) (D : DS) (all : List (List UInt8)), m ≤ k ∧ i = .int .i64 (m : Int) ∧ JD w pj v' J pd p' D wr ∧ JOn 2 bn 0 1 12 D J all 0 ∧ D.log.length ≤ m * 10) (fun i _ _ _ _ _ _ _ => k - (intOf i).toNat)
      case atStart => exact ⟨0, v, p, _, D0, [], Nat.zero_le _, rfl, HJ5.out, H0.out, by rw [HLG.out]; omega⟩
      case round =>
        obtain ⟨m, v', p', J, D, all, hm, rfl, hJ, hO, hlg⟩ := hrel
        clear HJ5
        by_cases hlt2 : m < k
        · have d1 : decide (m < k) = true := by simpa using hlt2
          have hkl : m < l.length := by rw [HL.out]; exact hlt2
          obtain ⟨b, off, B, cB, rfl, hcell0, hrb0⟩ := HR.out.at_ hkl
          obtain ⟨s, hs⟩ : ∃ s, l[m] = s := ⟨_, rfl⟩
          have hsl : s.length ≤ 20000 := by rw [← hs]; exact HSM.out _ (List.getElem_mem hkl)
          rw [hs] at hcell0 hrb0
          clear hs
          have hll := laidS_len s
          obtain ⟨ln, hln⟩ : ∃ ln, s.length = ln := ⟨_, rfl⟩
          rw [hln] at hcell0 hsl hll
          have HAPP := Lib.hid (room_app hO hJ.jok hJ.ok (s := s) (by omega) (by omega))
          obtain ⟨z, hz⟩ : ∃ z, (laidS s).length = z := ⟨_, rfl⟩
          obtain ⟨lf, hlf⟩ : ∃ lf, J.left D = lf := ⟨_, rfl⟩
          obtain ⟨us, hus⟩ : ∃ us, J.stream.length = us := ⟨_, rfl⟩
          have HLGB := Lib.hid hlg
          obtain ⟨lg, hlgl⟩ : ∃ lg, D.log.length = lg := ⟨_, rfl⟩
          have hus9 := hJ.jok.len hJ.ok
          have hlf9 : lf ≤ 490 := by rw [← hlf, hO.left_]; omega
          rw [hz, hlf, hus, hlgl] at HAPP
          rw [hz] at hll
          have HLL := Lib.hid hll
          rw [hus] at hus9
          rw [hlgl] at hlg
          have HLF : Hid (Calls Try.prog 13 #[.pointer (some ⟨pj, 0, none⟩)] wr fun e w' => e = .returned (.int .i64 (lf : Int)) ∧ ∃ q, w' = wr.drewN q) := by rw [← hlf]; exact jleft_any hJ
          have HUS : Hid (∀ q, Calls Try.prog 15 #[.pointer (some ⟨pj, 0, none⟩)] (wr.drewN q) fun e w' => e = .returned (.int .i64 (us : Int)) ∧ (wr.drewN q) = w') := fun q => by rw [← hus]; exact jused_any (hJ.drewN q)
          have HLOG : Hid (∀ q, Calls Try.prog 16 #[.pointer (some ⟨pd, 0, none⟩)] (wr.drewN q) fun e w' => ∃ B c, e = .returned (.slice B lg c) ∧ Below (wr.drewN q).heap.size (wr.drewN q) w') := fun q => by
            refine (log_any (hJ.drewN q).disk hJ.ok).mono ?_
            rintro e w' ⟨v9, rfl, ho9, hb9⟩
            obtain ⟨B9, c9, rfl, _⟩ := own_rdi ho9
            rw [hlgl]
            exact ⟨B9, c9, rfl, hb9⟩
          have HJ := Lib.hid (And.intro hJ hO)
          have HUE := Lib.hid hus
          have HLE := Lib.hid hlf
          have HGE := Lib.hid hlgl
          clear hJ hO hlf hus hlgl hll hz
          go_upto_region 18 with (first
            | (go_at_call 13; refine HLF.out.mono ?_; rintro e w' ⟨rfl, q6, rfl⟩)
            | (go_at_call 15; refine (HUS.out _).mono ?_; rintro e w' ⟨rfl, rfl⟩)
            | (go_at_call 16; refine (HLOG.out _).mono ?_; rintro e w7 ⟨B7, c7, rfl, hb7⟩))
          have hJ7 := HJ.out.1.keep (below_step (below_drewN (Below.refl _ _) q6) hb7)
          have hcell : w7.cell? ⟨b, off + m, none⟩ = some (.slice B ln cB) := (hJ7.bel.cell (World.block_lt_of_cell? w _ hcell0)).trans hcell0
          refine wp_world (fun V => (JD w pj v' J pd p' D V ∧ JOn 2 bn 0 1 12 D J all 0) ∧ V.cell? ⟨b, off + m, none⟩ = some (.slice B ln cB)) ⟨⟨hJ7, HJ.out.2⟩, hcell⟩ ?_
          clear hJ7 hcell hb7 HLOG HUS HLF HJ
          rintro w8 ⟨HJ8', hcell⟩
          have HJ8 := Lib.hid HJ8'
          clear HJ8'
          have d2 : decide ((0 : Int) ≤ (m : Int)) = true := by simp
          go_upto_region 20 with (fail)
          go_loop [16, 17] (fun a x => ∃ r q : Nat, r ≤ ln ∧ wid ln = q + wid r ∧ x = .int .i64 (r : Int) ∧ a = .int .i64 ((ln : Int) + 1 + (q : Int))) (fun _ x => (intOf x).toNat)
          case atStart => exact ⟨ln, 0, Nat.le_refl _, by omega, rfl, by simp⟩
          case round =>
            obtain ⟨r, q, hr1, hw, rfl, rfl⟩ := hrel
            have hws := wid_step (m := r) (by have : (256 : Nat) ^ 8 = 18446744073709551616 := by decide
                                              omega)
            by_cases h0 : 0 < r
            · have d3 : decide (0 < r) = true := by simpa using h0
              rw [if_neg (by omega)] at hws
              have q3 : IntKind.i64.wrap ((ln : Int) + 1 + (q : Int) + 1) = (ln : Int) + 1 + (q : Int) + 1 := IntWalk.i64_in _ (by have := wid_le ln; omega)
              go_wp2
              go_round
              case rel => exact ⟨r / 256, q + 1, by omega, by omega, by go_num, by go_num⟩
              case measure => simp [intOf]; omega
            · have d3 : decide (0 < r) = false := by simpa using h0
              rw [if_pos (by omega)] at hws
              have hzq : (ln : Int) + 1 + (q : Int) = (z : Int) := by have := HLL.out; omega
              rw [hzq]
              clear hzq hws hw h0
              rcases HAPP.out with ⟨hlz, hap⟩ | ⟨hlz, J9, D9, hap, hO9, e1, e2, e3⟩
              · have dz : decide (z ≤ lf) = false := by simp; omega
                have HAP : Hid (Calls Try.prog 17 #[.pointer (some ⟨pj, 0, none⟩), .slice B ln cB] w8 fun r w' => r = .returned (.int .i64 60) ∧ ∃ v' p', JD w pj v' J pd p' D w') := by
                  have h9 := jappend_any HJ8.out.1 s B ln cB hln (by omega) (hrb0.below HJ8.out.1.bel) (by rw [HJ8.out.2.len_]; have := HLGB.out; omega)
                  rw [hap] at h9
                  exact h9
                clear hap
                go_upto_region 24 with (go_at_call 17; refine HAP.out.mono ?_; rintro e w9 ⟨rfl, v9, p9, hJ9⟩)
                have HK := Lib.hid hJ9.jok.safe
                obtain ⟨sf, hsf⟩ : ∃ sf, J.safe = sf := ⟨_, rfl⟩
                have HUS : Hid (∀ V, Below w9.heap.size w9 V → Calls Try.prog 15 #[.pointer (some ⟨pj, 0, none⟩)] V fun e w' => e = .returned (.int .i64 (us : Int)) ∧ V = w') := fun V hV => by rw [← HUE.out]; exact jused_any (hJ9.keep hV)
                have HSF : Hid (∀ V, Below w9.heap.size w9 V → Calls Try.prog 18 #[.pointer (some ⟨pj, 0, none⟩)] V fun e w' => e = .returned (.int .i64 (sf : Int)) ∧ V = w') := fun V hV => by rw [← hsf]; exact jsafe_any (hJ9.keep hV)
                have HLF : Hid (∀ V, Below w9.heap.size w9 V → Calls Try.prog 13 #[.pointer (some ⟨pj, 0, none⟩)] V fun e w' => e = .returned (.int .i64 (lf : Int)) ∧ ∃ q, w' = V.drewN q) := fun V hV => by rw [← HLE.out]; exact jleft_any (hJ9.keep hV)
                have HLOG : Hid (∀ V, Below w9.heap.size w9 V → Calls Try.prog 16 #[.pointer (some ⟨pd, 0, none⟩)] V fun e w' => ∃ B c, e = .returned (.slice B lg c) ∧ Below V.heap.size V w') := fun V hV => by
                  refine (log_any (hJ9.keep hV).disk hJ9.ok).mono ?_
                  rintro e w' ⟨v9, rfl, ho9, hb9⟩
                  obtain ⟨B9, c9, rfl, _⟩ := own_rdi ho9
                  rw [HGE.out]
                  exact ⟨B9, c9, rfl, hb9⟩
                have d8 : decide (us < sf) = false := by have := HK.out; rw [HUE.out, hsf] at this; simp; omega
                have q5 : IntKind.i64.wrap ((us : Int) + (lf : Int)) = (us : Int) + (lf : Int) := IntWalk.i64_in _ (by omega)
                have HJ9 := Lib.hid hJ9
                clear hJ9 hsf hlz
                go_upto_region 16 with (first
                  | (go_at_call 11; refine (num_any _ _).mono ?_; rintro e w' ⟨rfl, rfl⟩)
                  | (go_at_call 15; refine (HUS.out _ (by first | exact Below.refl _ _ | exact hb10 | exact below_drewN hb10 _)).mono ?_; rintro e w' ⟨rfl, rfl⟩)
                  | (go_at_call 18; refine (HSF.out _ (by first | exact Below.refl _ _ | exact hb10 | exact below_drewN hb10 _)).mono ?_; rintro e w' ⟨rfl, rfl⟩)
                  | (go_at_call 13; refine (HLF.out _ (by first | exact Below.refl _ _ | exact hb10 | exact below_drewN hb10 _)).mono ?_; rintro e w' ⟨rfl, q9, rfl⟩)
                  | (go_at_call 16; refine (HLOG.out _ (by first | exact Below.refl _ _ | exact hb10 | exact below_drewN hb10 _)).mono ?_; rintro e w10 ⟨B10, c10, rfl, hb10⟩))
                have HJE := Lib.hid (HJ9.out.keep (below_drewN hb10 q9))
                go_wp2
                go_roundw
                case rel => exact ⟨m + 1, v9, p9, J, D, all, by omega, by go_num, HJE.out, HJ8.out.2, by have := HLGB.out; omega⟩
                case measure => simp [intOf]; omega
              · have dz : decide (z ≤ lf) = true := by simp; omega
                have HAP : Hid (Calls Try.prog 17 #[.pointer (some ⟨pj, 0, none⟩), .slice B ln cB] w8 fun r w' => r = .returned (.int .i64 0) ∧ ∃ v' p', JD w pj v' J9 pd p' D9 w') := by
                  have h9 := jappend_any HJ8.out.1 s B ln cB hln (by omega) (hrb0.below HJ8.out.1.bel) (by rw [HJ8.out.2.len_]; have := HLGB.out; omega)
                  rw [hap] at h9
                  exact h9
                have HO9 := Lib.hid hO9
                have HL9 : Hid (D9.log.length ≤ (m + 1) * 10) := by have := HGE.out; have := HLGB.out; show _ ≤ _; omega
                clear hap hO9 e3
                go_upto_region 24 with (go_at_call 17; refine HAP.out.mono ?_; rintro e w9 ⟨rfl, v9, p9, hJ9⟩)
                have HK := Lib.hid hJ9.jok.safe
                obtain ⟨sf, hsf⟩ : ∃ sf, J9.safe = sf := ⟨_, rfl⟩
                obtain ⟨u9, hu9⟩ : ∃ u9, J9.stream.length = u9 := ⟨_, rfl⟩
                obtain ⟨l9, hl9⟩ : ∃ l9, J9.left D9 = l9 := ⟨_, rfl⟩
                rw [hu9] at e1
                rw [hl9] at e2
                have HUS : Hid (∀ V, Below w9.heap.size w9 V → Calls Try.prog 15 #[.pointer (some ⟨pj, 0, none⟩)] V fun e w' => e = .returned (.int .i64 (u9 : Int)) ∧ V = w') := fun V hV => by rw [← hu9]; exact jused_any (hJ9.keep hV)
                have HSF : Hid (∀ V, Below w9.heap.size w9 V → Calls Try.prog 18 #[.pointer (some ⟨pj, 0, none⟩)] V fun e w' => e = .returned (.int .i64 (sf : Int)) ∧ V = w') := fun V hV => by rw [← hsf]; exact jsafe_any (hJ9.keep hV)
                have HLF : Hid (∀ V, Below w9.heap.size w9 V → Calls Try.prog 13 #[.pointer (some ⟨pj, 0, none⟩)] V fun e w' => e = .returned (.int .i64 (l9 : Int)) ∧ ∃ q, w' = V.drewN q) := fun V hV => by rw [← hl9]; exact jleft_any (hJ9.keep hV)
                have d8 : decide (u9 < sf) = false := by have := HK.out; rw [hu9, hsf] at this; simp; omega
                have q4' : IntKind.i64.wrap ((us : Int) + (z : Int)) = (us : Int) + (z : Int) := IntWalk.i64_in _ (by omega)
                have q5 : IntKind.i64.wrap ((us : Int) + (lf : Int)) = (us : Int) + (lf : Int) := IntWalk.i64_in _ (by omega)
                have q6' : IntKind.i64.wrap ((u9 : Int) + (l9 : Int)) = (u9 : Int) + (l9 : Int) := IntWalk.i64_in _ (by omega)
                have d9 : ((u9 : Int) != (us : Int) + (z : Int)) = false := by simp; omega
                have d10 : ((u9 : Int) + (l9 : Int) != (us : Int) + (lf : Int)) = false := by simp; omega
                have HJ9 := Lib.hid hJ9
                clear hJ9 hsf hlz hu9 hl9 e1 e2
                go_upto_region 16 with (first
                  | (go_at_call 11; refine (num_any _ _).mono ?_; rintro e w' ⟨rfl, rfl⟩)
                  | (go_at_call 15; refine (HUS.out _ (by first | exact Below.refl _ _ | exact below_drewN (Below.refl _ _) _)).mono ?_; rintro e w' ⟨rfl, rfl⟩)
                  | (go_at_call 18; refine (HSF.out _ (by first | exact Below.refl _ _ | exact below_drewN (Below.refl _ _) _)).mono ?_; rintro e w' ⟨rfl, rfl⟩)
                  | (go_at_call 13; refine (HLF.out _ (by first | exact Below.refl _ _ | exact below_drewN (Below.refl _ _) _)).mono ?_; rintro e w' ⟨rfl, q9, rfl⟩))
                have HJE := Lib.hid (HJ9.out.drewN q9)
                go_wp2
                go_roundw
                case rel => exact ⟨m + 1, v9, p9, J9, D9, all ++ [s], by omega, by go_num, HJE.out, HO9.out, HL9.out⟩
                case measure => simp [intOf]; omega
        · obtain rfl : m = k := by omega
          have d1 : decide (m < m) = false := by simp
          have hgl : D.log.length + 1 ≤ 1000000 := by omega
          obtain ⟨J2, D2, hF, hO2, hs2, hst2, hg2⟩ := hO.flush hJ.jok hJ.ok hgl
          have HF : Hid (Calls Try.prog 19 #[.pointer (some ⟨pj, 0, none⟩)] wr fun r w' => r = .returned (.int .i64 0) ∧ ∃ v' p', JD w pj v' J2 pd p' D2 w') := by
            have h9 := jflush_any hJ hgl
            rw [hF] at h9
            exact h9
          clear hF hJ hO
          go_wp2_with (first
            | (go_at_call 19; refine HF.out.mono ?_; rintro e w9 ⟨rfl, v9, p9, hJ9⟩; (have HSF := Lib.hid (jsafe_any hJ9)); (have HUS := Lib.hid (jused_any hJ9)); rw [hs2] at HSF; (have HBL := Lib.hid hJ9.bel); clear hJ9)
            | (go_at_call 11; refine (num_any _ _).mono ?_; rintro e w' ⟨rfl, rfl⟩)
            | (go_at_call 18; refine HSF.out.mono ?_; rintro e w' ⟨rfl, rfl⟩)
            | (go_at_call 15; refine HUS.out.mono ?_; rintro e w' ⟨rfl, rfl⟩)
            | (go_at_call 9; refine (live_from HBL.out).mono ?_; rintro r w1 ⟨rfl, hb9⟩))
          go_ret
          exact ⟨rfl, hb9⟩
end Go.Proofs.Ytcnhfbckaacalaa
