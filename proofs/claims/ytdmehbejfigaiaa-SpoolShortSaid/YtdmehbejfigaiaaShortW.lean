/- The walk of the statement SpoolShort. -/
import Derived.Test.YtdmehbejfigaiaaSpLive
import Derived.Test.YtdmehbejfigaiaaBackL
namespace Go.Proofs.Ytdmehbejfigaiaa
open Go.RowKit
set_option linter.unusedVariables false

theorem num_one2 (x : Nat) (W : World) (hx : x < 18446744073709551616) (n : Nat) (hn : (laidB x 0).length = n) :
    Calls Try.prog 11 #[.slice none 0 0, .slice (some ⟨W.heap.size, 0, none⟩) 1 1] (W.alloc (.cells #[.int .u64 (x : Int)] 23)) fun e w' => ∃ A c, e = .returned (.slice A n c) ∧ Rd w' A (laidB x 0) ∧ n ≤ c ∧ c ≤ 9223372036854775807 ∧ Below W.heap.size W w' := by
  have e1 : [] ++ laidL [x] = laidB x 0 := by simp [laidL]
  have hl := laidB_len x 0
  have hw := wid_le x
  refine (num_lay none (some ⟨W.heap.size, 0, none⟩) [] [x] 0 0 1 1 (W.alloc (.cells #[.int .u64 (x : Int)] 23)) rfl rfl (Nat.le_refl _) (by omega) (.inl rfl) (rdk_one .u64 W x 23) (by intro y hy; simp at hy; subst hy; exact hx) (by omega)).mono ?_
  rintro e w' ⟨v, rfl, hga, hb'⟩
  rw [e1] at hga
  obtain ⟨A, c, rfl, hr, h1, h2⟩ := hga.rd2 (by omega)
  exact ⟨A, c, by rw [hn], hr, by omega, h2, below_step (below_alloc W _) hb'⟩
theorem rdt_one (w : World) (s : ByteArray) (t : Nat) : RdT (w.alloc (.cells #[.string s] t)) (some ⟨w.heap.size, 0, none⟩) [s.data.toList] := by
  refine .inr ⟨w.heap.size, 0, rfl, fun j hj => ?_⟩
  simp at hj
  subst hj
  exact (Blk.new w t #[.string s]).cell 0
theorem str_one (A : Option Addr) (l0 : List UInt8) (c n : Nat) (s : ByteArray) (W : World) (hl : l0.length = n) (hn : n ≤ 9) (hs : s.size ≤ 20000) (hnc : n ≤ c) (hc : c ≤ 9223372036854775807) (hr : Rd W A l0) (N : Nat) (hN : (l0 ++ laidS s.data.toList).length = N) :
    Calls Try.prog 24 #[.slice A n c, .slice (some ⟨W.heap.size, 0, none⟩) 1 1] (W.alloc (.cells #[.string s] 9)) fun e w' => ∃ A c, e = .returned (.slice A N c) ∧ Rd w' A (l0 ++ laidS s.data.toList) ∧ N ≤ c ∧ c ≤ 9223372036854775807 ∧ Below W.heap.size W w' := by
  have e1 : l0 ++ laidSs [s.data.toList] = l0 ++ laidS s.data.toList := by simp [laidSs]
  have e2 : textSum [s.data.toList] = s.size := by simp [textSum]
  have e3 : (laidS s.data.toList).length ≤ 9 + s.size := by
    have := laidSs_len [s.data.toList]
    rw [e2] at this
    simpa [laidSs] using this
  refine (str_lay A (some ⟨W.heap.size, 0, none⟩) l0 [s.data.toList] n c 1 1 (W.alloc (.cells #[.string s] 9)) hl rfl hnc hc (hr.below (below_alloc _ _)) (rdt_one W s 9) (by rw [e2]; omega)).mono ?_
  rintro e w' ⟨v, rfl, hga, hb'⟩
  rw [e1] at hga
  obtain ⟨A, c, rfl, hr, h1, h2⟩ := hga.rd2 (by rw [List.length_append]; omega)
  exact ⟨A, c, by rw [hN], hr, by omega, h2, below_step (below_alloc W _) hb'⟩

/-- What is read of a number and a text that are cut off. -/
theorem short_law (n k : Nat) (s : List UInt8) (hn : n < 18446744073709551616) (hs : s.length ≤ 20000) (hk : k < (laidB n 0 ++ laidS s).length) :
    ∃ x p t1 t2, (⟨(laidB n 0 ++ laidS s).take k, 0, 0, 0⟩ : TS).number false = ((x, false), t1) ∧ t1.str (s.length : Int) = ([], t2) ∧ t2.fault = 3 ∧ t2.spot = p ∧ t2.pos = p ∧ t2.end_ = 3 ∧ x < 18446744073709551616 ∧ p ≤ 20 ∧
      ((k < (laidB n 0).length ∧ x = 0 ∧ p = 0) ∨ ((laidB n 0).length ≤ k ∧ x = n ∧ p = (laidB n 0).length)) := by
  have hw := wid_le n
  have hl := laidB_len n 0
  by_cases hc : k < (laidB n 0).length
  · rw [List.take_append_of_le_length (by omega)]
    have h1 := number_cut (t := ⟨(laidB n 0).take k, 0, 0, 0⟩) rfl hc rfl
    refine ⟨0, 0, _, (⟨(laidB n 0).take k, 0, 0, 0⟩ : TS).stops 3 0, h1, ?_, rfl, rfl, rfl, rfl, by omega, by omega, .inl ⟨hc, rfl, rfl⟩⟩
    exact str_stopped (t := (⟨(laidB n 0).take k, 0, 0, 0⟩ : TS).stops 3 0) (by show (3 : Nat) ≠ 0; omega) _
  · rw [List.take_append, List.take_of_length_le (by omega)]
    have h1 := number_at (t := ⟨laidB n 0 ++ (laidS s).take (k - (laidB n 0).length), 0, 0, 0⟩) (r := (laidS s).take (k - (laidB n 0).length)) rfl hn rfl
    rw [List.length_append] at hk
    have h2 := str_cut (t := ⟨laidB n 0 ++ (laidS s).take (k - (laidB n 0).length), 0 + (wid n + 1), 0, 0⟩) (s := s) (most := (s.length : Int)) (k := k - (laidB n 0).length) rfl (by omega) (by omega) (by omega) (by
      show (laidB n 0 ++ _).drop (0 + (wid n + 1)) = _
      rw [List.drop_append_of_le_length (by omega), List.drop_of_length_le (by omega)]
      rfl)
    exact ⟨n, 0 + (wid n + 1), _, _, h1, h2, rfl, rfl, rfl, rfl, hn, by omega, .inr ⟨by omega, rfl, by omega⟩⟩

set_option maxRecDepth 100000 in
set_option maxHeartbeats 3000000 in
theorem short_in (n k : Nat) (s : ByteArray) (w : World) (hn : n < 18446744073709551616) (hs : s.size ≤ 20000) (hk : k < (laidB n 0 ++ laidS s.data.toList).length) :
    Calls Try.prog 7 #[.int .u64 n, .string s, .int .i64 k] w (Yes w) := by
  have e3 : (laidS s.data.toList).length ≤ 9 + s.size := by
    have := laidSs_len [s.data.toList]
    simpa [laidSs, textSum] using this
  have hlaw := short_law n k s.data.toList hn (by simpa using hs) hk
  rw [show (s.data.toList.length : Int) = (s.size : Int) by simp] at hlaw
  obtain ⟨x, p, t1, t2, l1, l2, l3, l4, l5, l6, hx, hp, l7⟩ := hlaw
  obtain ⟨wx, hwx⟩ : ∃ wx, (laidB n 0).length = wx := ⟨_, rfl⟩
  obtain ⟨N, hN⟩ : ∃ N, (laidB n 0 ++ laidS s.data.toList).length = N := ⟨_, rfl⟩
  have hw9 : wx ≤ 9 := by
    have := wid_le n
    rw [laidB_len] at hwx
    omega
  rw [hwx] at l7
  rw [hN] at hk
  have hN2 : N ≤ 30000 := by rw [List.length_append] at hN; omega
  have HN := Lib.hid (fun W => num_one2 n W hn wx hwx)
  have HS := Lib.hid (fun A c W h1 h2 h3 => str_one A (laidB n 0) c wx s W hwx hw9 hs h1 h2 h3 N hN)
  have HO := Lib.hid (fun A c W hr => open_any A ((laidB n 0 ++ laidS s.data.toList).take k) k c W (by rw [List.length_take, hN]; omega) (by omega) hr)
  generalize (⟨(laidB n 0 ++ laidS s.data.toList).take k, 0, 0, 0⟩ : TS) = t0 at *
  have HB0 : Hid (∀ pt B cB (w' : World), TOwn w pt B cB t0 w' → Calls Try.prog 13 #[.pointer (some ⟨pt, 0, none⟩)] w' fun r w2 => r = .returned (.int .u64 x) ∧ TOwn w pt B cB t1 w2) := by
    intro pt B cB w' h
    have h1 := tnum_any h.tape
    rw [l1] at h1
    exact h1.mono fun e w2 ⟨he, ha⟩ => ⟨he, h.act ha⟩
  have HB1 : Hid (∀ pt B cB (w' : World), TOwn w pt B cB t1 w' → Calls Try.prog 26 #[.pointer (some ⟨pt, 0, none⟩), .int .i64 (s.size : Int)] w' fun r w2 => r = .returned (.string ⟨#[]⟩) ∧ TOwn w pt B cB t2 w2) := by
    intro pt B cB w' h
    have h1 := tstr_any h.tape (s.size : Int) (by omega)
    rw [l2] at h1
    exact h1.mono fun e w2 ⟨he, ha⟩ => ⟨he, h.act ha⟩
  have HF : Hid (∀ pt B cB (w' : World), TOwn w pt B cB t2 w' → Calls Try.prog 14 #[.pointer (some ⟨pt, 0, none⟩)] w' fun r w2 => r = .returned (.tuple #[.int .i64 3, .int .i64 p]) ∧ TOwn w pt B cB t2 w2) := by
    intro pt B cB w' h
    have h1 := fault_any h.tape
    rw [l3, l4] at h1
    exact h1.mono fun e w2 ⟨he, q, hq⟩ => ⟨he, by rw [hq]; exact h.below (below_drewN (Below.refl _ _) q)⟩
  have HP : Hid (∀ pt B cB (w' : World), TOwn w pt B cB t2 w' → Calls Try.prog 17 #[.pointer (some ⟨pt, 0, none⟩)] w' fun r w2 => r = .returned (.int .i64 p) ∧ w' = w2) := by
    intro pt B cB w' h
    have h1 := pos_any h.tape
    rw [l5] at h1
    exact h1
  have HE : Hid (∀ pt B cB (w' : World), TOwn w pt B cB t2 w' → Calls Try.prog 27 #[.pointer (some ⟨pt, 0, none⟩)] w' fun r w2 => r = .returned (.int .i64 3) ∧ Below w.heap.size w w2) := by
    intro pt B cB w' h
    have h1 := tend_any h.tape
    rw [l6] at h1
    exact h1.mono fun e w2 ⟨he, q, hq⟩ => ⟨he, by rw [hq]; exact (h.below (below_drewN (Below.refl _ _) q)).bel⟩
  clear l1 l2 l3 l4 l5 l6 hN hwx
  generalize (laidB n 0 ++ laidS s.data.toList) = L at *
  go_enter Try.func7, Try.ntmps7
  go_upto_region 4 with (first
    | (go_at_call 11; refine (HN.out w).mono ?_; rintro e w1 ⟨A1, c1, rfl, hr1, h1a, h1b, hb1⟩)
    | (go_at_call 24; refine (HS.out A1 c1 w1 h1a h1b hr1).mono ?_; rintro e w2 ⟨A2, c2, rfl, hr2, h2a, h2b, hb2⟩))
  have hb3 := below_step hb1 hb2
  clear hb1 hb2 hr1 h1a h1b
  go_upto_region 7 with (first
    | (go_at_call 11; refine (HN.out w2).mono ?_; rintro e w4 ⟨A4, c4, rfl, _, _, _, hb4⟩))
  have hr4 := (hr2.below hb4)
  have hb5 := below_step hb3 hb4
  refine wp_world (fun W => Below w.heap.size w W ∧ Rd W A2 L) ⟨hb5, hr4⟩ ?_
  clear hb3 hb4 hb5 hr4 hr2
  rintro w5 ⟨hb5, hr5⟩
  have hr5k : Rd w5 A2 (L.take k) := by
    rcases hr5 with rfl | ⟨b, off, hA, hc⟩
    · exact .inl (by simp)
    · refine .inr ⟨b, off, hA, fun j hj => ?_⟩
      rw [List.length_take] at hj
      rw [hc j (by omega)]
      simp
  have HO1 := Lib.hid (HO.out A2 c2 w5 hr5k)
  have u2 : (k : Int) ≤ (c2 : Int) := by omega
  clear hr5 hr5k
  go_upto_region 8 with (go_at_call 12; refine HO1.out.mono ?_; rintro e w6 ⟨pr, Br, cr, rfl, hT6, _, _⟩)
  have hT : TOwn w pr Br cr t0 w6 := ⟨hT6.tape, below_step hb5 hT6.bel, Nat.le_trans hb5.size hT6.own⟩
  clear hT6 hb5
  go_upto_region 11 with (first
    | (go_at_call 13; refine (HB0.out _ _ _ _ hT).mono ?_; rintro e w7 ⟨rfl, hT7⟩)
    | (go_at_call 26; refine (HB1.out _ _ _ _ hT7).mono ?_; rintro e w8 ⟨rfl, hT8⟩)
    | (go_at_call 14; refine (HF.out _ _ _ _ hT8).mono ?_; rintro e w9 ⟨rfl, hT9⟩))
  clear hT hT7 hT8 HN HS HO HB0 HB1 HF HO1
  rcases l7 with ⟨h1, rfl, rfl⟩ | ⟨h1, rfl, rfl⟩
  · have hd : decide (k < wx) = true := by simpa using h1
    go_wp2_with (first
      | (go_at_call 16; refine (numE_any _ _).mono ?_; rintro e w' ⟨rfl, rfl⟩)
      | (go_at_call 17; refine (HP.out _ _ _ _ hT9).mono ?_; rintro e w' ⟨rfl, rfl⟩)
      | (go_at_call 10; refine (live_from hT9.bel).mono ?_; rintro e w11 ⟨rfl, hb11⟩))
    go_ret
    exact ⟨rfl, hb11⟩
  · have hd : decide (k < p) = false := by simp; omega
    go_wp2_with (first
      | (go_at_call 16; refine (numE_any _ _).mono ?_; rintro e w' ⟨rfl, rfl⟩)
      | (go_at_call 17; refine (HP.out _ _ _ _ hT9).mono ?_; rintro e w' ⟨rfl, rfl⟩)
      | (go_at_call 27; refine (HE.out _ _ _ _ hT9).mono ?_; rintro e w10 ⟨rfl, hb10⟩)
      | (go_at_call 10; refine (live_from hb10).mono ?_; rintro e w11 ⟨rfl, hb11⟩))
    go_ret
    exact ⟨rfl, hb11⟩

set_option maxRecDepth 100000 in
set_option maxHeartbeats 3000000 in
theorem short_any (n : Nat) (s : ByteArray) (k : Int) (w : World) (hn : n < 18446744073709551616) (hs : s.size ≤ 9223372036854775807) (hk1 : -9223372036854775808 ≤ k) (hk2 : k ≤ 9223372036854775807) :
    Calls Try.prog 7 #[.int .u64 n, .string s, .int .i64 k] w (Yes w) := by
  by_cases h1 : 20000 < s.size
  · have hd : decide (20000 < s.size) = true := by simpa using h1
    go_enter Try.func7, Try.ntmps7
    go_wp2_with (go_at_call 10; refine (live_any w).mono ?_; rintro e w11 ⟨rfl, hb11⟩)
    go_ret
    exact ⟨rfl, hb11⟩
  · by_cases h2 : 0 ≤ k ∧ k < (laidB n 0 ++ laidS s.data.toList).length
    · obtain ⟨j, rfl⟩ := Int.eq_ofNat_of_zero_le h2.1
      exact short_in n j s w hn (by omega) (by omega)
    · obtain ⟨wx, hwx⟩ : ∃ wx, (laidB n 0).length = wx := ⟨_, rfl⟩
      obtain ⟨N, hN⟩ : ∃ N, (laidB n 0 ++ laidS s.data.toList).length = N := ⟨_, rfl⟩
      have hw9 : wx ≤ 9 := by
        have := wid_le n
        rw [laidB_len] at hwx
        omega
      rw [hN] at h2
      have hs2 : s.size ≤ 20000 := by omega
      have HN := Lib.hid (fun W => num_one2 n W hn wx hwx)
      have HS := Lib.hid (fun A c W h1 h2 h3 => str_one A (laidB n 0) c wx s W hwx hw9 hs2 h1 h2 h3 N hN)
      clear hN hwx
      have hways : k < 0 ∨ (¬ k < 0 ∧ (N : Int) ≤ k) := by omega
      clear h2
      rcases hways with h2 | ⟨h2, h3⟩
      all_goals
        go_enter Try.func7, Try.ntmps7
        go_wp2_with (first
          | (go_at_call 11; refine (HN.out w).mono ?_; rintro e w1 ⟨A1, c1, rfl, hr1, h1a, h1b, hb1⟩)
          | (go_at_call 24; refine (HS.out A1 c1 w1 h1a h1b hr1).mono ?_; rintro e w2 ⟨A2, c2, rfl, hr2, h2a, h2b, hb2⟩)
          | (go_at_call 10; refine (live_from (below_step hb1 hb2)).mono ?_; rintro e w11 ⟨rfl, hb11⟩))
        go_ret
        exact ⟨rfl, hb11⟩
end Go.Proofs.Ytdmehbejfigaiaa
