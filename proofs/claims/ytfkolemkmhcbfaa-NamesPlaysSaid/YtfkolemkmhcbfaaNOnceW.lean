/- The walk of the statement NamesOnce. -/
import Derived.Test.YtfkolemkmhcbfaaNaE
namespace Go.Proofs.Ytfkolemkmhcbfaa
open Go.RowKit
set_option linter.unusedVariables false
theorem less_iff : ∀ (a b : List UInt8), Op.bytesLess a b = true ↔ a < b
  | [], [] => by simp [Op.bytesLess]
  | [], _ :: _ => by simp [Op.bytesLess]
  | _ :: _, [] => by simp [Op.bytesLess]
  | a :: r, b :: s => by
    have ih := less_iff r s
    simp only [Op.bytesLess, Bool.or_eq_true, decide_eq_true_eq, Bool.and_eq_true, beq_iff_eq, ih, List.cons_lt_cons_iff]
theorem removeP_len (L : NL) (s : List UInt8) : (removeP L s).2.length ≤ L.length := del1_len s
theorem ActN.Ok.wf {a : ActN} (h : a.Ok) : (Lit.int .i64 a.pid).wf = true := WalkArith.wf_i64 ⟨h.p1, h.p2⟩

set_option maxRecDepth 100000 in
set_option maxHeartbeats 2000000 in
theorem namesOnce_any (A : Option Addr) (l : List ActN) (n c : Nat) (w : World) (hl : l.length = n) (hn : n ≤ 9223372036854775807) (hr : RdNA w A l) (ho : ∀ a ∈ l, a.Ok) :
    Calls Try.prog 4 #[.slice A n c] w (Yes w) := by
  have HH := Lib.hid (huge_any A l n c w hl hn hr ho)
  cases hh : hugeB l with
  | true =>
    rw [hh] at HH
    have HLV := Lib.hid (live_any w)
    go_enter Try.func4, Try.ntmps4
    go_wp2_with (first
      | (go_at_call 7; refine HH.out.mono ?_; rintro e w' ⟨rfl, rfl⟩)
      | (go_at_call 8; refine HLV.out.mono ?_; rintro e w' ⟨rfl, hb⟩))
    go_ret
    exact ⟨rfl, hb⟩
  | false =>
    rw [hh] at HH
    obtain ⟨hn150, hs⟩ := huge_not hl hh
    have HL := Lib.hid hl
    have HO := Lib.hid ho
    have HS := Lib.hid hs
    have HR := Lib.hid hr
    have HNW := Lib.hid (nnew_nil w w (Below.refl _ _))
    clear hl ho hs hr hh
    go_enter Try.func4, Try.ntmps4
    go_upto_region 7 with (first
      | (go_at_call 7; refine HH.out.mono ?_; rintro e w' ⟨rfl, rfl⟩)
      | (go_at_call 10; refine HNW.out.mono ?_; rintro e w1 ⟨pn, b1, b2, rfl, hN⟩)
      | (go_at_call 11; refine (num_any _ _).mono ?_; rintro e w' ⟨rfl, rfl⟩))
    clear HH HNW
    go_loopw [5] (fun v wx => ∃ (i : Nat) (L : NL), i ≤ n ∧ v = .int .i64 (i : Int) ∧ NmB w wx pn b1 b2 L ∧ L.length ≤ i) (fun v _ => n - (intOf v).toNat)
    case atStart => exact ⟨0, [], Nat.zero_le _, rfl, hN, Nat.le_refl _⟩
    case round =>
      clear hN
      obtain ⟨i, L, hi, rfl, hN, hlen⟩ := hrel
      by_cases hlt : i < n
      · have hd8 : decide (i < n) = true := by simp; omega
        have hkl : i < l.length := by rw [HL.out]; exact hlt
        obtain ⟨b, o, rfl, c0, c1, c2⟩ := HR.out.at_ hkl
        have hok := HO.out _ (List.getElem_mem hkl)
        have hsl := HS.out _ (List.getElem_mem hkl)
        generalize l[i] = a at *
        obtain ⟨k, s, p⟩ := a
        have hp := hok.wf
        simp only at c0 c1 c2 hsl hp
        have HC : Hid (∀ V, Below w.heap.size w V → V.cell? ⟨b, o + i * 3 + 1, none⟩ = some (.string ⟨s.toArray⟩) ∧ V.cell? ⟨b, o + i * 3 + 2, none⟩ = some (.int .i64 p)) := fun V hV =>
          ⟨(hV.cell (World.block_lt_of_cell? w _ c1)).trans c1, (hV.cell (World.block_lt_of_cell? w _ c2)).trans c2⟩
        have e0 := (hN.bel.cell (World.block_lt_of_cell? w _ c0)).trans c0
        clear c0 c1 c2 hok hkl
        by_cases hk : k = 0
        · subst hk
          have hdn := hN.keep (Below.refl _ _).drew
          have HA := Lib.hid (hdn.add (s := s) (by unfold maxLen; omega) hp (by omega) rfl)
          have HLEN := Lib.hid (addP_len L s p)
          have s0 := HC.out _ hdn.bel
          clear hN hdn
          go_upto_region 10 with (fail)
          clear e0
          go_region_held3 (fun V => V.cell? ⟨b, o + i * 3 + 1, none⟩ = some (.string ⟨s.toArray⟩) ∧ V.cell? ⟨b, o + i * 3 + 2, none⟩ = some (.int .i64 p)) (first | exact s0 | exact HC.out _ hN'.bel) ((go_at_call 12; refine HA.out.mono ?_; rintro e w' ⟨rfl, hN'⟩))
          all_goals
            go_wp2
            go_roundw
            case rel => exact ⟨i + 1, _, by omega, by go_num, hN', by have := HLEN.out; omega⟩
            case measure => simp [intOf]; omega
        · have hk0 : (k == 0) = false := by simp [hk]
          have HA := Lib.hid (hN.remove (s := s) (by unfold maxLen; omega) rfl)
          have HLEN := Lib.hid (removeP_len L s)
          have e1 := (HC.out _ hN.bel).1
          clear hN
          go_wp2_with (go_at_call 13; refine HA.out.mono ?_; rintro e w' ⟨rfl, hN'⟩)
          go_roundw
          case rel => exact ⟨i + 1, _, by omega, by go_num, hN', by have := HLEN.out; omega⟩
          case measure => simp [intOf]; omega
      · have hd8 : decide (i < n) = false := by simp; omega
        have HAL := Lib.hid (nall_any hN.at_ (by omega))
        have HN := Lib.hid hN
        obtain ⟨m, hm⟩ : ∃ m, L.length = m := ⟨_, rfl⟩
        rw [hm] at HAL hlen
        have HM := Lib.hid hm
        clear hN hm
        go_upto_region 14 with (go_at_call 22; refine HAL.out.mono ?_; rintro e w2 ⟨v, rfl, hown, hb⟩)
        obtain ⟨A2, c2, rfl, hE⟩ := rde_own hown HM.out
        have hN2 := HN.out.keep hb
        have HN2 := Lib.hid hN2
        have HE := Lib.hid hE
        have HLV := Lib.hid (fun V (hV : Below w2.heap.size w2 V) => (live_any V).mono (R' := Yes w2) fun e w' ⟨he, h⟩ => ⟨he, below_step hV h⟩)
        clear hown hE hN2 hb HN HAL
        go_loopw [7] (fun v wx => ∃ j : Nat, j ≤ m ∧ v = .int .i64 (j : Int) ∧ Below w2.heap.size w2 wx) (fun v _ => m - (intOf v).toNat)
        case atStart => exact ⟨0, Nat.zero_le _, rfl, Below.refl _ _⟩
        case round =>
          obtain ⟨j, hj, rfl, hbx⟩ := hrel
          by_cases hjm : j < m
          · have hd9 : decide (j < m) = true := by simp; omega
            have hjl : j < L.length := by rw [HM.out]; exact hjm
            obtain ⟨K, hok⟩ := HN2.out.at_.ok
            obtain ⟨b, o, rfl, c0, c1⟩ := (HE.out.below hbx).at_ hjl
            have hNx := HN2.out.keep hbx
            have HBX := Lib.hid hbx
            have hmem := List.getElem_mem hjl
            have hnm := hok.nm _ hmem
            have h1 := hok.get1_iff.2 (show (L[j].1, L[j].2) ∈ L from hmem)
            have h2 := hok.of1_iff.2 (show (L[j].1, L[j].2) ∈ L from hmem)
            have HSR := Lib.hid hok.srt
            cases j with
            | zero =>
              generalize L[0] = x at *
              obtain ⟨s, p⟩ := x
              simp only [Nat.zero_mul, Nat.add_zero] at c0 c1 hnm h1 h2
              have HF := Lib.hid (hNx.find (s := s) (by unfold maxLen; omega) h1)
              have HOF := Lib.hid (hNx.of hnm.2.2 h2)
              simp only [Option.getD_some, Option.isSome_some] at HF HOF
              clear hok hmem hnm h1 h2 hjl hNx hbx
              go_upto_region 18 with (first
                | (go_at_call 17; refine HF.out.mono ?_; rintro e w' ⟨rfl, rfl⟩)
                | (go_at_call 19; refine HOF.out.mono ?_; rintro e w' ⟨rfl, rfl⟩))
              go_quiet (fail)
              go_wp2
              go_roundw
              case rel => exact ⟨1, by omega, rfl, below_drewN HBX.out _⟩
              case measure => simp [intOf]; omega
            | succ k =>
              have hkl : k < L.length := by omega
              obtain ⟨b', o', e9, d0, _⟩ := (HE.out.below hbx).at_ hkl
              obtain ⟨rfl, rfl⟩ : b = b' ∧ o = o' := by
                injection e9 with e9
                injection e9 with e9 e10 _
                exact ⟨e9, e10⟩
              have hlt9 : L[k].1 < L[k + 1].1 := List.pairwise_iff_getElem.1 hok.srt k (k + 1) hkl hjl (by omega)
              generalize L[k] = y at *
              generalize L[k + 1] = x at *
              obtain ⟨s, p⟩ := x
              obtain ⟨s', p'⟩ := y
              simp only at c0 c1 d0 hnm h1 h2 hlt9
              have HF := Lib.hid (hNx.find (s := s) (by unfold maxLen; omega) h1)
              have HOF := Lib.hid (hNx.of hnm.2.2 h2)
              simp only [Option.getD_some, Option.isSome_some] at HF HOF
              clear hok hmem hnm h1 h2 hjl e9 hkl hNx hbx
              go_upto_region 18 with (first
                | (go_at_call 17; refine HF.out.mono ?_; rintro e w' ⟨rfl, rfl⟩)
                | (go_at_call 19; refine HOF.out.mono ?_; rintro e w' ⟨rfl, rfl⟩))
              have hbl : Op.bytesLess s s' = false := by
                cases hq : Op.bytesLess s s' with
                | false => rfl
                | true => exact absurd (List.lt_trans hlt9 ((less_iff _ _).1 hq)) (List.lt_irrefl _)
              have hbe : (s == s') = false := by
                rw [beq_eq_false_iff_ne]
                rintro rfl
                exact List.lt_irrefl _ hlt9
              go_quiet (fail)
              go_wp2
              go_roundw
              case rel => exact ⟨k + 2, by omega, by go_num, below_drewN HBX.out _⟩
              case measure => simp [intOf]; omega
          · have hd9 : decide (j < m) = false := by simp; omega
            go_wp2_with (go_at_call 8; refine (HLV.out _ hbx).mono ?_; rintro e w3 ⟨rfl, hb3⟩)
            go_ret
            exact ⟨rfl, below_step HN2.out.bel hb3⟩
end Go.Proofs.Ytfkolemkmhcbfaa
