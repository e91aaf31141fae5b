/- The walk of the statement SpoolBack. -/
import Derived.Test.YtdmehbejfigaiaaTexts
import Derived.Test.YtdmehbejfigaiaaBackL
import Derived.Deep.RegionWith
namespace Go.Proofs.Ytdmehbejfigaiaa
open Go.RowKit
set_option linter.unusedVariables false

theorem flat_at {α : Type} (f : α → List UInt8) (a rest : List UInt8) (xs : List α) (k : Nat) (h : k < xs.length) :
    (a ++ (xs.flatMap f ++ rest)).drop (a.length + ((xs.take k).flatMap f).length) = f xs[k] ++ ((xs.drop (k + 1)).flatMap f ++ rest) := by
  have e : xs.flatMap f = (xs.take k).flatMap f ++ (f xs[k] ++ (xs.drop (k + 1)).flatMap f) := by
    have h2 : xs.flatMap f = (xs.take k ++ xs.drop k).flatMap f := by rw [List.take_append_drop]
    rw [h2, List.drop_eq_getElem_cons h, List.flatMap_append, List.flatMap_cons]
  rw [e]
  generalize (xs.take k).flatMap f = q
  rw [← List.drop_drop, List.drop_left, List.append_assoc, List.drop_left, List.append_assoc]
theorem flat_succ {α : Type} (f : α → List UInt8) (xs : List α) (k : Nat) (h : k < xs.length) : ((xs.take (k + 1)).flatMap f).length = ((xs.take k).flatMap f).length + (f xs[k]).length := by
  rw [List.take_succ_eq_append_getElem h, List.flatMap_append, List.length_append, List.flatMap_cons, List.flatMap_nil, List.append_nil]

section
variable {w : World} {pr : Nat} {B : Option Addr} {c : Nat} {L r : List UInt8} {p : Nat} {W : World}
theorem back_num {x : Nat} (h : TOwn w pr B c ⟨L, p, 0, 0⟩ W) (hx : x < 18446744073709551616) (hd : L.drop p = laidB x 0 ++ r) :
    Calls Try.prog 13 #[.pointer (some ⟨pr, 0, none⟩)] W fun e W' => e = .returned (.int .u64 x) ∧ TOwn w pr B c ⟨L, p + (laidB x 0).length, 0, 0⟩ W' := by
  have h1 := tnum_any h.tape
  rw [number_at (t := ⟨L, p, 0, 0⟩) rfl hx hd] at h1
  refine h1.mono fun e w2 ⟨he, ha⟩ => ⟨he, ?_⟩
  rw [laidB_len]
  exact h.act ha
theorem back_int {z : Int} (h : TOwn w pr B c ⟨L, p, 0, 0⟩ W) (h1 : -9223372036854775808 ≤ z) (h2 : z ≤ 9223372036854775807) (hd : L.drop p = laidI z ++ r) :
    Calls Try.prog 15 #[.pointer (some ⟨pr, 0, none⟩)] W fun e W' => e = .returned (.int .i64 z) ∧ TOwn w pr B c ⟨L, p + (laidI z).length, 0, 0⟩ W' := by
  have h3 := tint_any h.tape
  rw [int_at (t := ⟨L, p, 0, 0⟩) rfl h1 h2 hd] at h3
  exact h3.mono fun e w2 ⟨he, ha⟩ => ⟨he, h.act ha⟩
theorem back_str {s : List UInt8} (h : TOwn w pr B c ⟨L, p, 0, 0⟩ W) (hs : s.length ≤ 20000) (hd : L.drop p = laidS s ++ r) :
    Calls Try.prog 26 #[.pointer (some ⟨pr, 0, none⟩), .int .i64 20000] W fun e W' => e = .returned (.string ⟨s.toArray⟩) ∧ TOwn w pr B c ⟨L, p + (laidS s).length, 0, 0⟩ W' := by
  have h3 := tstr_any h.tape 20000 (by omega)
  rw [str_at (t := ⟨L, p, 0, 0⟩) rfl (by omega) (by omega) hd] at h3
  exact h3.mono fun e w2 ⟨he, ha⟩ => ⟨he, h.act ha⟩
theorem back_end (h : TOwn w pr B c ⟨L, p, 0, 0⟩ W) (hp : p = L.length) :
    Calls Try.prog 27 #[.pointer (some ⟨pr, 0, none⟩)] W fun e W' => e = .returned (.int .i64 0) ∧ Below w.heap.size w W' := by
  have h3 := tend_any h.tape
  rw [show (⟨L, p, 0, 0⟩ : TS).end_ = 0 by unfold TS.end_; rw [if_neg (by simp; omega)]] at h3
  exact h3.mono fun e w2 ⟨he, q, hq⟩ => ⟨he, by rw [hq]; exact (h.below (below_drewN (Below.refl _ _) q)).bel⟩
end

theorem TOwn.drew {w0 W : World} {pt : Nat} {A : Option Addr} {c : Nat} {t : TS} (h : TOwn w0 pt A c t W) : TOwn w0 pt A c t W.drew := h.below (Below.refl _ _).drew
theorem rd_cell {w W : World} {b o : Nat} {v : Value} (h : w.cell? ⟨b, o, none⟩ = some v) (hb : Below w.heap.size w W) : W.cell? ⟨b, o, none⟩ = some v := (hb.cell (World.block_lt_of_cell? w ⟨b, o, none⟩ h)).trans h

set_option maxRecDepth 100000 in
set_option maxHeartbeats 4000000 in
theorem back_in (A0 A1 A2 : Option Addr) (n0 c0 n1 c1 n2 c2 : Nat) (ns : List Nat) (zs : List Int) (ss : List (List UInt8)) (w : World)
    (h0 : ns.length = n0) (h1 : zs.length = n1) (h2 : ss.length = n2) (hr0 : RdK .u64 w A0 (ns.map (fun (x : Nat) => (x : Int)))) (hr1 : RdK .i64 w A1 zs) (hr2 : RdT w A2 ss)
    (hb0 : ∀ x ∈ ns, x < 18446744073709551616) (hb1 : ∀ x ∈ zs, -9223372036854775808 ≤ x ∧ x ≤ 9223372036854775807) (hm0 : ¬ 60 < n0) (hm1 : ¬ 60 < n1) (hm2 : n2 ≤ 60) (hm3 : textSum ss ≤ 20000) (ho : ∀ s ∈ ss, s.length ≤ 140737488351232) :
    Calls Try.prog 6 #[.slice A0 n0 c0, .slice A1 n1 c1, .slice A2 n2 c2] w (Yes w) := by
  have HT := Lib.hid (texts_any A2 ss n2 c2 w h2 (by omega) hr2 ho)
  rw [show textsB ss = true by unfold textsB; rw [h2]; simp; omega] at HT
  have hl0 := laidL_len ns
  have hl1 := laidIs_len zs
  have hl2 := laidSs_len ss
  rw [h0] at hl0
  rw [h1] at hl1
  rw [h2] at hl2
  obtain ⟨L0, hL0⟩ : ∃ L0, laidL ns = L0 := ⟨_, rfl⟩
  obtain ⟨L1, hL1⟩ : ∃ L1, L0 ++ laidIs zs = L1 := ⟨_, rfl⟩
  obtain ⟨L2, hL2⟩ : ∃ L2, L1 ++ laidSs ss = L2 := ⟨_, rfl⟩
  have e1 : L1.length = L0.length + (laidIs zs).length := by rw [← hL1, List.length_append]
  have e2 : L2.length = L1.length + (laidSs ss).length := by rw [← hL2, List.length_append]
  rw [hL0] at hl0
  obtain ⟨m0, hm0l⟩ : ∃ m0, L0.length = m0 := ⟨_, rfl⟩
  obtain ⟨m1, hm1l⟩ : ∃ m1, L1.length = m1 := ⟨_, rfl⟩
  obtain ⟨m2, hm2l⟩ : ∃ m2, L2.length = m2 := ⟨_, rfl⟩
  have HN : Hid (Calls Try.prog 11 #[.slice none 0 0, .slice A0 n0 c0] w fun e w' => ∃ A c, e = .returned (.slice A m0 c) ∧ Rd w' A L0 ∧ m0 ≤ c ∧ c ≤ 9223372036854775807 ∧ Below w.heap.size w w') := by
    refine (num_lay none A0 [] ns 0 0 n0 c0 w rfl h0 (Nat.le_refl _) (by omega) (.inl rfl) hr0 hb0 (by omega)).mono ?_
    rintro e w' ⟨v, rfl, hga, hb⟩
    rw [List.nil_append, hL0] at hga
    obtain ⟨A, c, rfl, hr, h1, h2⟩ := hga.rd2 (by omega)
    rw [hm0l] at h1 ⊢
    exact ⟨A, c, rfl, hr, h1, h2, hb⟩
  have HI : Hid (∀ A c (W : World), Rd W A L0 → m0 ≤ c → c ≤ 9223372036854775807 → Below w.heap.size w W → Calls Try.prog 18 #[.slice A m0 c, .slice A1 n1 c1] W fun e w' => ∃ A c, e = .returned (.slice A m1 c) ∧ Rd w' A L1 ∧ m1 ≤ c ∧ c ≤ 9223372036854775807 ∧ Below w.heap.size w w') := by
    intro A c W hr hc1 hc2 hbW
    refine (int_lay A A1 L0 zs m0 c n1 c1 W hm0l h1 hc1 hc2 hr (hr1.below hbW) hb1 (by omega)).mono ?_
    rintro e w' ⟨v, rfl, hga, hb⟩
    rw [hL1] at hga
    obtain ⟨A, c, rfl, hr, h1, h2⟩ := hga.rd2 (by omega)
    rw [hm1l] at h1 ⊢
    exact ⟨A, c, rfl, hr, h1, h2, below_step hbW hb⟩
  have HS : Hid (∀ A c (W : World), Rd W A L1 → m1 ≤ c → c ≤ 9223372036854775807 → Below w.heap.size w W → Calls Try.prog 24 #[.slice A m1 c, .slice A2 n2 c2] W fun e w' => ∃ A c, e = .returned (.slice A m2 c) ∧ Rd w' A L2 ∧ m2 ≤ c ∧ c ≤ 9223372036854775807 ∧ Below w.heap.size w w') := by
    intro A c W hr hc1 hc2 hbW
    refine (str_lay A A2 L1 ss m1 c n2 c2 W hm1l h2 hc1 hc2 hr (hr2.below hbW) (by omega)).mono ?_
    rintro e w' ⟨v, rfl, hga, hb⟩
    rw [hL2] at hga
    obtain ⟨A, c, rfl, hr, h1, h2⟩ := hga.rd2 (by omega)
    rw [hm2l] at h1 ⊢
    exact ⟨A, c, rfl, hr, h1, h2, below_step hbW hb⟩
  have HO : Hid (∀ A c (W : World), Rd W A L2 → Below w.heap.size w W → Calls Try.prog 12 #[.slice A m2 c] W fun e w' => ∃ pr B cB, e = .returned (.pointer (some ⟨pr, 0, none⟩)) ∧ TOwn w pr B cB ⟨L2, 0, 0, 0⟩ w') := by
    intro A c W hr hbW
    refine (open_any A L2 m2 c W hm2l (by omega) hr).mono ?_
    rintro e w' ⟨pr, B, cB, rfl, hT, _, _⟩
    exact ⟨pr, B, cB, rfl, hT.tape, below_step hbW hT.bel, Nat.le_trans hbW.size hT.own⟩
  -- what stands at each place
  have D0 : Hid (∀ k (h : k < ns.length), L2.drop ((laidL (ns.take k)).length) = laidB ns[k] 0 ++ ((laidL (ns.drop (k + 1))) ++ (laidIs zs ++ laidSs ss))) := by
    intro k h
    have := flat_at (fun n => laidB n 0) [] (laidIs zs ++ laidSs ss) ns k h
    rw [← hL2, ← hL1, ← hL0, List.append_assoc]
    rw [List.nil_append, List.length_nil, Nat.zero_add] at this
    exact this
  have D1 : Hid (∀ k (h : k < zs.length), L2.drop (m0 + (laidIs (zs.take k)).length) = laidI zs[k] ++ (laidIs (zs.drop (k + 1)) ++ laidSs ss)) := by
    intro k h
    have := flat_at laidI L0 (laidSs ss) zs k h
    rw [← hL2, ← hL1, ← hm0l, List.append_assoc]
    exact this
  have D2 : Hid (∀ k (h : k < ss.length), L2.drop (m1 + (laidSs (ss.take k)).length) = laidS ss[k] ++ (laidSs (ss.drop (k + 1)) ++ [])) := by
    intro k h
    have := flat_at laidS L1 [] ss k h
    rw [← hL2, ← hm1l]
    rw [show L1 ++ (ss.flatMap laidS ++ []) = L1 ++ laidSs ss by rw [List.append_nil]; rfl] at this
    exact this
  have E0 : Hid (∀ k (h : k < ns.length), (laidL (ns.take k)).length + (laidB ns[k] 0).length = (laidL (ns.take (k + 1))).length) := fun k h => (flat_succ (fun n => laidB n 0) ns k h).symm
  have E1 : Hid (∀ k (h : k < zs.length), m0 + (laidIs (zs.take k)).length + (laidI zs[k]).length = m0 + (laidIs (zs.take (k + 1))).length) := fun k h => by rw [Nat.add_assoc]; exact congrArg _ (flat_succ laidI zs k h).symm
  have E2 : Hid (∀ k (h : k < ss.length), m1 + (laidSs (ss.take k)).length + (laidS ss[k]).length = m1 + (laidSs (ss.take (k + 1))).length) := fun k h => by rw [Nat.add_assoc]; exact congrArg _ (flat_succ laidS ss k h).symm
  have F0 := Lib.hid (show (laidL (ns.take n0)).length = m0 + (laidIs (zs.take 0)).length by
    rw [List.take_of_length_le (by omega), hL0]; simpa [laidIs] using hm0l)
  have F1 := Lib.hid (show m0 + (laidIs (zs.take n1)).length = m1 + (laidSs (ss.take 0)).length by
    rw [List.take_of_length_le (by omega)]
    have : (laidSs (ss.take 0)).length = 0 := by simp [laidSs]
    omega)
  have F2 := Lib.hid (show m1 + (laidSs (ss.take n2)).length = L2.length by
    rw [List.take_of_length_le (by omega)]; omega)
  have HB0 := Lib.hid hb0
  have HB1 := Lib.hid hb1
  have HSZ : Hid (∀ k (h : k < ss.length), ss[k].length ≤ 20000) := by
    intro k h
    have := textSum_take ss k h
    omega
  have HH0 := Lib.hid h0
  have HH1 := Lib.hid h1
  have HH2 := Lib.hid h2
  clear hL0 hL1 hL2 e1 e2 hl0 hl1 hl2 hb0 hb1 hm3 ho hm0l hm1l hm2l h0 h1 h2
  have hm2' : ¬ 60 < n2 := by omega
  go_enter Try.func6, Try.ntmps6
  go_upto_region 6 with (first
    | (go_at_call 20; refine HT.out.mono ?_; rintro e w' ⟨rfl, rfl⟩)
    | (go_at_call 11; refine HN.out.mono ?_; rintro e w1 ⟨B1, d1, rfl, hr1', k1a, k1b, hb1'⟩)
    | (go_at_call 18; refine (HI.out _ _ _ hr1' k1a k1b hb1').mono ?_; rintro e w2 ⟨B2, d2, rfl, hr2', k2a, k2b, hb2'⟩)
    | (go_at_call 24; refine (HS.out _ _ _ hr2' k2a k2b hb2').mono ?_; rintro e w3 ⟨B3, d3, rfl, hr3', k3a, k3b, hb3'⟩)
    | (go_at_call 12; refine (HO.out _ _ _ hr3' hb3').mono ?_; rintro e w4 ⟨pr, Br, cr, rfl, hT4⟩))
  clear hr1' hr2' hr3' hb1' hb2' hb3' k1a k1b k2a k2b k3a k3b HN HI HS HO HT
  go_wp2
  go_loopw [8] (fun i wr => ∃ k : Nat, k ≤ n0 ∧ i = .int .i64 k ∧ TOwn w pr Br cr ⟨L2, (laidL (ns.take k)).length, 0, 0⟩ wr) (fun i _ => n0 - (intOf i).toNat)
  case atStart => exact ⟨0, Nat.zero_le _, rfl, by simpa [laidL] using hT4⟩
  case round =>
    obtain ⟨k, hk, rfl, hT⟩ := hrel
    clear hT4
    by_cases hlt : k < n0
    · have hd1 : decide ((k : Int) < n0) = true := by simp; omega
      have hkl : k < ns.length := by rw [HH0.out]; exact hlt
      have hat := hr0.at_ (show k < (ns.map (fun (x : Nat) => (x : Int))).length by rw [List.length_map]; exact hkl)
      rw [List.getElem_map] at hat
      obtain ⟨b, off, rfl, hcell⟩ := hat
      have HC := Lib.hid (back_num hT.drew (HB0.out _ (List.getElem_mem hkl)) (D0.out k hkl))
      have cc0 := rd_cell hcell hT.bel
      have HCE := Lib.hid hcell
      rw [E0.out k hkl] at HC
      generalize ns[k] = x at *
      clear hcell hT hkl
      go_upto_region 9 with (fail)
      go_region_with ((go_at_call 13; refine HC.out.mono ?_; rintro e w5 ⟨rfl, hT5⟩; have cc1 := rd_cell HCE.out hT5.bel))
      all_goals
        go_wp2
        go_roundw
        case rel => exact ⟨k + 1, by omega, by go_num, hT5⟩
        case measure => simp [intOf]; omega
    · obtain rfl : k = n0 := by omega
      have hd1 : decide ((k : Int) < k) = false := by simp
      rw [F0.out] at hT
      clear hlt
      go_wp2
      go_loopw [9] (fun i wr => ∃ k : Nat, k ≤ n1 ∧ i = .int .i64 k ∧ TOwn w pr Br cr ⟨L2, m0 + (laidIs (zs.take k)).length, 0, 0⟩ wr) (fun i _ => n1 - (intOf i).toNat)
      case atStart => exact ⟨0, Nat.zero_le _, rfl, hT⟩
      case round =>
        clear hT
        obtain ⟨k, hk, rfl, hT⟩ := hrel
        by_cases hlt : k < n1
        · have hd1 : decide ((k : Int) < n1) = true := by simp; omega
          have hkl : k < zs.length := by rw [HH1.out]; exact hlt
          obtain ⟨b, off, rfl, hcell⟩ := hr1.at_ hkl
          have hx := HB1.out _ (List.getElem_mem hkl)
          have HC := Lib.hid (back_int hT.drew hx.1 hx.2 (D1.out k hkl))
          have cc0 := rd_cell hcell hT.bel
          have HCE := Lib.hid hcell
          rw [E1.out k hkl] at HC
          generalize zs[k] = x at *
          clear hcell hT hkl
          go_upto_region 14 with (fail)
          go_region_with ((go_at_call 15; refine HC.out.mono ?_; rintro e w5 ⟨rfl, hT5⟩; have cc1 := rd_cell HCE.out hT5.bel))
          all_goals
            go_wp2
            go_roundw
            case rel => exact ⟨k + 1, by omega, by go_num, hT5⟩
            case measure => simp [intOf]; omega
        · obtain rfl : k = n1 := by omega
          have hd1 : decide ((k : Int) < k) = false := by simp
          rw [F1.out] at hT
          clear hlt
          go_wp2
          go_loopw [10] (fun i wr => ∃ k : Nat, k ≤ n2 ∧ i = .int .i64 k ∧ TOwn w pr Br cr ⟨L2, m1 + (laidSs (ss.take k)).length, 0, 0⟩ wr) (fun i _ => n2 - (intOf i).toNat)
          case atStart => exact ⟨0, Nat.zero_le _, rfl, hT⟩
          case round =>
            clear hT
            obtain ⟨k, hk, rfl, hT⟩ := hrel
            by_cases hlt : k < n2
            · have hd1 : decide ((k : Int) < n2) = true := by simp; omega
              have hkl : k < ss.length := by rw [HH2.out]; exact hlt
              obtain ⟨b, off, rfl, hcell⟩ := hr2.at_ hkl
              have HC := Lib.hid (back_str hT.drew (HSZ.out k hkl) (D2.out k hkl))
              rw [E2.out k hkl] at HC
              generalize (ByteArray.mk (ss[k]'hkl).toArray) = x at *
              have cc0 := rd_cell hcell hT.bel
              have HCE := Lib.hid hcell
              clear hcell hT hkl
              go_upto_region 19 with (fail)
              go_region_with ((go_at_call 26; refine HC.out.mono ?_; rintro e w5 ⟨rfl, hT5⟩; have cc1 := rd_cell HCE.out hT5.bel))
              all_goals
                go_wp2
                go_roundw
                case rel => exact ⟨k + 1, by omega, by go_num, hT5⟩
                case measure => simp [intOf]; omega
            · obtain rfl : k = n2 := by omega
              have hd1 : decide ((k : Int) < k) = false := by simp
              have HE := Lib.hid (back_end hT F2.out)
              clear hlt
              go_wp2_with (first
                | (go_at_call 27; refine HE.out.mono ?_; rintro e w6 ⟨rfl, hb6⟩)
                | (go_at_call 16; refine (numE_any _ _).mono ?_; rintro e w' ⟨rfl, rfl⟩)
                | (go_at_call 10; refine (live_from hb6).mono ?_; rintro e w11 ⟨rfl, hb11⟩))
              go_ret
              exact ⟨rfl, hb11⟩

set_option maxRecDepth 100000 in
set_option maxHeartbeats 1000000 in
theorem back_any (A0 A1 A2 : Option Addr) (n0 c0 n1 c1 n2 c2 : Nat) (ns : List Nat) (zs : List Int) (ss : List (List UInt8)) (w : World)
    (h0 : ns.length = n0) (h1 : zs.length = n1) (h2 : ss.length = n2) (hr0 : RdK .u64 w A0 (ns.map (fun (x : Nat) => (x : Int)))) (hr1 : RdK .i64 w A1 zs) (hr2 : RdT w A2 ss)
    (hb0 : ∀ x ∈ ns, x < 18446744073709551616) (hb1 : ∀ x ∈ zs, -9223372036854775808 ≤ x ∧ x ≤ 9223372036854775807) (hm0 : n0 ≤ 9223372036854775807) (hm1 : n1 ≤ 9223372036854775807) (hm2 : n2 ≤ 9223372036854775807) (ho : ∀ s ∈ ss, s.length ≤ 140737488351232) :
    Calls Try.prog 6 #[.slice A0 n0 c0, .slice A1 n1 c1, .slice A2 n2 c2] w (Yes w) := by
  by_cases k0 : 60 < n0
  · clear h0 h1 h2 hb0 hb1 ho
    go_enter Try.func6, Try.ntmps6
    go_wp2_with (go_at_call 10; refine (live_any w).mono ?_; rintro e w11 ⟨rfl, hb11⟩)
    go_ret
    exact ⟨rfl, hb11⟩
  · by_cases k1 : 60 < n1
    · clear h0 h1 h2 hb0 hb1 ho
      go_enter Try.func6, Try.ntmps6
      go_wp2_with (go_at_call 10; refine (live_any w).mono ?_; rintro e w11 ⟨rfl, hb11⟩)
      go_ret
      exact ⟨rfl, hb11⟩
    · by_cases k2 : textsB ss = true
      · have k3 := k2
        unfold textsB at k3
        rw [h2] at k3
        have k4 := of_decide_eq_true k3
        exact back_in A0 A1 A2 n0 c0 n1 c1 n2 c2 ns zs ss w h0 h1 h2 hr0 hr1 hr2 hb0 hb1 k0 k1 k4.1 k4.2 ho
      · have HT := Lib.hid (texts_any A2 ss n2 c2 w h2 hm2 hr2 ho)
        rw [show textsB ss = false by simpa using k2] at HT
        clear h0 h1 h2 hb0 hb1 ho k2
        go_enter Try.func6, Try.ntmps6
        go_wp2_with (first
          | (go_at_call 20; refine HT.out.mono ?_; rintro e w' ⟨rfl, rfl⟩)
          | (go_at_call 10; refine (live_any w).mono ?_; rintro e w11 ⟨rfl, hb11⟩))
        go_ret
        exact ⟨rfl, hb11⟩
end Go.Proofs.Ytdmehbejfigaiaa
