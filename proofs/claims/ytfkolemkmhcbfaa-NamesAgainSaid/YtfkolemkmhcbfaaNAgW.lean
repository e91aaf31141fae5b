/- The walk of the statement NamesAgain. -/
import Derived.Test.YtfkolemkmhcbfaaNOnceW
namespace Go.Proofs.Ytfkolemkmhcbfaa
open Go.RowKit
set_option linter.unusedVariables false

theorem get1_none {L : NL} {s : List UInt8} (h : ∀ q ∈ L, q.1 ≠ s) : get1 L s = none := by
  unfold get1
  rw [Option.map_eq_none_iff, List.find?_eq_none]
  intro q hq
  simpa using h q hq
theorem of1_none' {L : NL} {p : Int} (h : ∀ q ∈ L, q.2 ≠ p) : of1 L p = none := by
  unfold of1
  rw [Option.map_eq_none_iff, List.find?_eq_none]
  intro q hq
  simpa using h q hq
theorem ins1_last {x : List UInt8 × Int} : ∀ {L : NL}, (∀ q ∈ L, q.1 < x.1) → ins1 x L = L ++ [x]
  | [], _ => rfl
  | a :: r, h => by
    have h1 : bytesBefore x.1 a.1 = false := by
      cases hq : bytesBefore x.1 a.1 with
      | false => rfl
      | true => exact absurd (List.lt_trans (h a (by simp)) ((before_iff _ _).1 hq)) (List.lt_irrefl _)
    unfold ins1
    rw [h1, ins1_last (fun q hq => h q (by simp [hq]))]
    rfl
/-- Names made anew of all entries. -/
theorem newP_all {L : NL} {K : List (Int × List UInt8)} (h : NOk L K) : ∀ (r acc : NL), acc ++ r = L → newP acc r = (0, L)
  | [], acc, e => by rw [List.append_nil] at e; rw [e]; rfl
  | x :: r, acc, e => by
    have hx : x ∈ L := by rw [← e]; simp
    have hacc : ∀ q ∈ acc, q.1 < x.1 := fun q hq => by
      have := h.srt
      rw [← e] at this
      exact (List.pairwise_append.1 this).2.2 q hq x (by simp)
    have hp : ∀ q ∈ acc, q.2 ≠ x.2 := fun q hq e9 => by
      have hqL : q ∈ L := by rw [← e]; simp [hq]
      have a1 := h.get2_iff.2 (show (q.1, q.2) ∈ L from hqL)
      have a2 := h.get2_iff.2 (show (x.1, x.2) ∈ L from hx)
      rw [e9, a2] at a1
      have := hacc q hq
      rw [Option.some.inj a1] at this
      exact List.lt_irrefl _ this
    obtain ⟨n1, n2, n3⟩ := h.nm x hx
    have hA : addP acc x.1 x.2 = (0, acc ++ [x]) := by
      unfold addP
      rw [if_neg (by simp [n1]; omega), if_neg (by rw [get1_none (fun q hq e9 => by have := hacc q hq; rw [e9] at this; exact List.lt_irrefl _ this), of1_none' hp]; simp), ins1_last hacc]
    unfold newP
    rw [hA, if_pos rfl]
    exact newP_all h r (acc ++ [x]) (by rw [← e]; simp)
theorem dropP_of {L : NL} {K : List (Int × List UInt8)} (h : NOk L K) (p : Int) : of1 (dropP L p).2 p = none := by
  unfold dropP
  cases ho : of1 L p with
  | none => exact ho
  | some s =>
    refine of1_none' fun q hq e => ?_
    obtain ⟨hq, hne⟩ := List.mem_filter.1 hq
    have h1 := h.of1_iff.2 (show (q.1, q.2) ∈ L from hq)
    rw [e, ho] at h1
    rw [Option.some.inj h1] at hne
    simp at hne
theorem removeP_get (L : NL) (s : List UInt8) : get1 (removeP L s).2 s = none := by
  refine get1_none fun q hq e => ?_
  obtain ⟨hq, hne⟩ := List.mem_filter.1 hq
  rw [e] at hne
  simp at hne
theorem removeP_of {L : NL} {p : Int} (s : List UInt8) (h : of1 L p = none) : of1 (removeP L s).2 p = none :=
  of1_none' fun q hq e => of1_none h q.1 (by rw [← e]; exact (List.mem_filter.1 hq).1)
theorem get1_ins {L : NL} {s : List UInt8} (p : Int) (h : get1 L s = none) : get1 (ins1 (s, p) L) s = some p := by
  induction L with
  | nil => simp [ins1, get1]
  | cons a r ih =>
    unfold get1 at h
    rw [Option.map_eq_none_iff, List.find?_cons] at h
    unfold ins1
    split
    · simp [get1]
    · split at h
      · cases h
      · rename_i _ hne
        unfold get1 at ih ⊢
        rw [List.find?_cons, hne]
        exact ih (by rw [h]; rfl)

/-- The end: what is dropped may be given anew. -/
theorem again_end {L : NL} {K : List (Int × List UInt8)} (h : NOk L K) (p : Int) (s : List UInt8) (hs : s ≠ []) (hl : ¬ 255 < s.length) : addP (removeP (dropP L p).2 s).2 s p = (0, ins1 (s, p) (removeP (dropP L p).2 s).2) := by
  unfold addP
  rw [if_neg (by simp [hs]; omega), if_neg (by rw [removeP_get, removeP_of s (dropP_of h p)]; simp)]
theorem again_bad (L : NL) (p : Int) (s : List UInt8) (h : s = [] ∨ 255 < s.length) : addP L s p = (2, L) := by
  unfold addP
  rw [if_pos h]

set_option maxRecDepth 100000 in
set_option maxHeartbeats 4000000 in
theorem namesAgain_any (A : Option Addr) (l : List ActN) (n c : Nat) (p : Int) (s : List UInt8) (w : World) (hl : l.length = n) (hn : n ≤ 9223372036854775807) (hr : RdNA w A l) (ho : ∀ a ∈ l, a.Ok) (hp : (Lit.int .i64 p).wf = true) (hsm : s.length ≤ maxLen) :
    Calls Try.prog 6 #[.slice A n c, .int .i64 p, .string ⟨s.toArray⟩] w (Yes w) := by
  have HH := Lib.hid (huge_any A l n c w hl hn hr ho)
  by_cases hgood : hugeB l = false ∧ s.length ≤ 20000
  · obtain ⟨hh, hs2⟩ := hgood
    rw [hh] at HH
    obtain ⟨hn150, hs⟩ := huge_not hl hh
    have HL := Lib.hid hl
    have HO := Lib.hid ho
    have HS := Lib.hid hs
    have HR := Lib.hid hr
    have HNW := Lib.hid (nnew_nil w w (Below.refl _ _))
    have d0 : decide ((20000 : Int) < (s.length : Int)) = false := by simp; omega
    have d0' : decide (20000 < s.length) = false := by simp; omega
    clear hl ho hs hr hh
    go_enter Try.func6, Try.ntmps6
    go_upto_region 7 with (first
      | (go_at_call 7; refine HH.out.mono ?_; rintro e w' ⟨rfl, rfl⟩)
      | (go_at_call 10; refine HNW.out.mono ?_; rintro e w1 ⟨pn, b1, b2, rfl, hN⟩)
      | (go_at_call 11; refine (num_any _ _).mono ?_; rintro e w' ⟨rfl, rfl⟩))
    clear HH HNW
    go_loopw [9] (fun v wx => ∃ (i : Nat) (L : NL), i ≤ n ∧ v = .int .i64 (i : Int) ∧ NmB w wx pn b1 b2 L ∧ L.length ≤ i) (fun v _ => n - (intOf v).toNat)
    case atStart => exact ⟨0, [], Nat.zero_le _, rfl, hN, Nat.le_refl _⟩
    case round =>
      clear hN
      obtain ⟨i, L, hi, rfl, hN, hlen⟩ := hrel
      by_cases hlt : i < n
      · have hd8 : decide (i < n) = true := by simp; omega
        have hkl : i < l.length := by rw [HL.out]; exact hlt
        obtain ⟨b, o, rfl, c0, c1, c2⟩ := HR.out.at_ hkl
        have hok := HO.out _ (List.getElem_mem hkl)
        have hsl := HS.out _ (List.getElem_mem hkl)
        generalize l[i] = a at *
        obtain ⟨k, s', p'⟩ := a
        have hp' := hok.wf
        simp only at c0 c1 c2 hsl hp'
        have HC : Hid (∀ V, Below w.heap.size w V → V.cell? ⟨b, o + i * 3 + 1, none⟩ = some (.string ⟨s'.toArray⟩) ∧ V.cell? ⟨b, o + i * 3 + 2, none⟩ = some (.int .i64 p')) := fun V hV =>
          ⟨(hV.cell (World.block_lt_of_cell? w _ c1)).trans c1, (hV.cell (World.block_lt_of_cell? w _ c2)).trans c2⟩
        clear c0 c1 c2 hok hkl
        have hdn := hN.keep (Below.refl _ _).drew
        have HA := Lib.hid (hdn.add (s := s') (by unfold maxLen; omega) hp' (by omega) rfl)
        have HLEN := Lib.hid (addP_len L s' p')
        have s0 := HC.out _ hdn.bel
        clear hN hdn
        go_upto_region 9 with (fail)
        go_region_held3 (fun V => V.cell? ⟨b, o + i * 3 + 1, none⟩ = some (.string ⟨s'.toArray⟩) ∧ V.cell? ⟨b, o + i * 3 + 2, none⟩ = some (.int .i64 p')) (first | exact s0 | exact HC.out _ hN'.bel) ((go_at_call 12; refine HA.out.mono ?_; rintro e w' ⟨rfl, hN'⟩))
        all_goals
          go_wp2
          go_roundw
          case rel => exact ⟨i + 1, _, by omega, by go_num, hN', by have := HLEN.out; omega⟩
          case measure => simp [intOf]; omega
      · have hd8 : decide (i < n) = false := by simp; omega
        have HAL := Lib.hid (nall_any hN.at_ (by omega))
        have HN := Lib.hid hN
        obtain ⟨K, hok⟩ := hN.at_.ok
        have HOK := Lib.hid hok
        obtain ⟨m, hm⟩ : ∃ m, L.length = m := ⟨_, rfl⟩
        rw [hm] at HAL hlen
        have HM := Lib.hid hm
        clear hN hm hok
        go_upto_region 11 with (go_at_call 22; refine HAL.out.mono ?_; rintro e w2 ⟨v, rfl, hown, hb⟩)
        obtain ⟨A2, c2, rfl, hE⟩ := rde_own hown HM.out
        have hbw2 := below_step HN.out.bel hb
        have HB2 := Lib.hid hbw2
        have HE := Lib.hid hE
        have HNW2 := Lib.hid (nnew_any L A2 m c2 w2 HM.out (by omega) hE (fun x hx => ⟨by have := (HOK.out.nm x hx).2.1; unfold maxLen; omega, (HOK.out.nm x hx).2.2⟩))
        clear hown hE hbw2 HAL HN hb
        go_upto_region 14 with (first
          | (go_at_call 10; refine HNW2.out.mono ?_; rintro e w3 ⟨hb3, h3⟩; rw [newP_all HOK.out L [] rfl] at h3; rcases h3 with ⟨h9, _⟩ | ⟨_, pm, g1, g2, rfl, hN3, z0, z1, z2⟩; · exact absurd rfl h9)
          | (go_at_call 11; refine (num_any _ _).mono ?_; rintro e w' ⟨rfl, rfl⟩))
        have hz := (Below.size HB2.out)
        have HN3 : Hid (NmB w w3 pm g1 g2 L) := ⟨hN3, below_step HB2.out hb3, by omega, by omega, by omega⟩
        have HE3 := Lib.hid (HE.out.below hb3)
        have HAL := Lib.hid (nall_any hN3 (by rw [HM.out]; omega))
        rw [HM.out] at HAL
        clear hN3 hb3 z0 z1 z2 HNW2 HE hz
        go_upto_region 16 with (go_at_call 22; refine HAL.out.mono ?_; rintro e w4 ⟨v, rfl, hown, hb⟩)
        obtain ⟨A3, c3, rfl, hE4⟩ := rde_own hown HM.out
        have HE4 := Lib.hid hE4
        have HE2 := Lib.hid (HE3.out.below hb)
        have HN4 := Lib.hid (HN3.out.keep hb)
        clear hown hE4 hb HAL HN3 HE3
        go_loopw [14] (fun v wx => ∃ j : Nat, j ≤ m ∧ v = .int .i64 (j : Int) ∧ Below w4.heap.size w4 wx) (fun v _ => m - (intOf v).toNat)
        case atStart => exact ⟨0, Nat.zero_le _, rfl, Below.refl _ _⟩
        case round =>
          obtain ⟨j, hj, rfl, hbx⟩ := hrel
          by_cases hjm : j < m
          · have hd9 : decide (j < m) = true := by simp; omega
            have hjl : j < L.length := by rw [HM.out]; exact hjm
            obtain ⟨b, o, rfl, e0, e1⟩ := (HE2.out.below hbx).at_ hjl
            obtain ⟨b', o', rfl, f0, f1⟩ := (HE4.out.below hbx).at_ hjl
            generalize L[j] = x at *
            obtain ⟨s1, p1⟩ := x
            simp only at e0 e1 f0 f1
            have HBX := Lib.hid hbx
            clear hbx hjl
            go_upto_region 18 with (fail)
            go_quiet (fail)
            go_wp2
            go_roundw
            case rel => exact ⟨j + 1, by omega, by go_num, below_drewN HBX.out _⟩
            case measure => simp [intOf]; omega
          · have hd9 : decide (j < m) = false := by simp; omega
            have HDR := Lib.hid ((HN4.out.keep hbx).drop hp rfl)
            have HRM := Lib.hid (fun V (h : NmB w V pm g1 g2 (dropP L p).2) => h.remove (s := s) hsm rfl)
            obtain ⟨L9, hL9⟩ : ∃ L9, (removeP (dropP L p).2 s).2 = L9 := ⟨_, rfl⟩
            have hlen9 : L9.length < 1000000 := by
              rw [← hL9]
              have h1 := removeP_len (dropP L p).2 s
              have h2 : (dropP L p).2.length ≤ L.length := by
                unfold dropP
                cases of1 L p with
                | none => exact Nat.le_refl _
                | some q => exact del1_len q
              rw [HM.out] at h2
              omega
            have hg9 : get1 L9 s = none := by rw [← hL9]; exact removeP_get _ _
            clear hbx HE2 HE4
            by_cases hs0 : s = []
            · subst hs0
              have HA := Lib.hid (fun V (h : NmB w V pm g1 g2 L9) => h.add (s := []) hsm hp hlen9 (again_bad L9 p [] (.inl rfl)))
              have HF := Lib.hid (fun V (h : NmB w V pm g1 g2 L9) => h.find (s := []) hsm hg9)
              rw [hL9] at HRM
              simp only [Option.getD_none, Option.isSome_none] at HF
              clear hL9 hg9
              go_wp2_with (first
                | (go_at_call 15; refine HDR.out.mono ?_; rintro e w5 ⟨rfl, hN5⟩; have HRM9 := Lib.hid (HRM.out _ hN5))
                | (go_at_call 13; refine HRM9.out.mono ?_; rintro e w6 ⟨rfl, hN6⟩; have HA9 := Lib.hid (HA.out _ hN6))
                | (go_at_call 12; refine HA9.out.mono ?_; rintro e w7 ⟨rfl, hN7⟩; have HF9 := Lib.hid (HF.out _ hN7))
                | (go_at_call 17; refine HF9.out.mono ?_; rintro e w8 ⟨rfl, rfl⟩)
                | (go_at_call 11; refine (num_any _ _).mono ?_; rintro e w' ⟨rfl, rfl⟩)
                | (go_at_call 8; refine (live_any _).mono ?_; rintro e w9 ⟨rfl, hb9⟩))
              go_ret
              exact ⟨rfl, below_step hN7.bel hb9⟩
            · by_cases hs5 : 255 < s.length
              · have HA := Lib.hid (fun V (h : NmB w V pm g1 g2 L9) => h.add (s := s) hsm hp hlen9 (again_bad L9 p s (.inr hs5)))
                have HF := Lib.hid (fun V (h : NmB w V pm g1 g2 L9) => h.find (s := s) hsm hg9)
                rw [hL9] at HRM
                simp only [Option.getD_none, Option.isSome_none] at HF
                have r1 : decide ((1 : Int) ≤ (s.length : Int)) = true := by simp; omega
                have r2 : decide ((s.length : Int) ≤ 255) = false := by simp; omega
                clear hL9 hg9
                go_wp2_with (first
                  | (go_at_call 15; refine HDR.out.mono ?_; rintro e w5 ⟨rfl, hN5⟩; have HRM9 := Lib.hid (HRM.out _ hN5))
                  | (go_at_call 13; refine HRM9.out.mono ?_; rintro e w6 ⟨rfl, hN6⟩; have HA9 := Lib.hid (HA.out _ hN6))
                  | (go_at_call 12; refine HA9.out.mono ?_; rintro e w7 ⟨rfl, hN7⟩; have HF9 := Lib.hid (HF.out _ hN7))
                  | (go_at_call 17; refine HF9.out.mono ?_; rintro e w8 ⟨rfl, rfl⟩)
                  | (go_at_call 11; refine (num_any _ _).mono ?_; rintro e w' ⟨rfl, rfl⟩)
                  | (go_at_call 8; refine (live_any _).mono ?_; rintro e w9 ⟨rfl, hb9⟩))
                go_ret
                exact ⟨rfl, below_step hN7.bel hb9⟩
              · have hE := again_end HOK.out p s hs0 hs5
                rw [hL9] at hE
                have HA := Lib.hid (fun V (h : NmB w V pm g1 g2 L9) => h.add (s := s) hsm hp hlen9 hE)
                have HF := Lib.hid (fun V (h : NmB w V pm g1 g2 (ins1 (s, p) L9)) => h.find (s := s) hsm (get1_ins p hg9))
                rw [hL9] at HRM
                simp only [Option.getD_some, Option.isSome_some] at HF
                have hs1 : 0 < s.length := List.length_pos_iff.2 hs0
                have r1 : decide ((1 : Int) ≤ (s.length : Int)) = true := by simp; omega
                have r2 : decide ((s.length : Int) ≤ 255) = true := by simp; omega
                clear hL9 hg9 hE hs1
                go_wp2_with (first
                  | (go_at_call 15; refine HDR.out.mono ?_; rintro e w5 ⟨rfl, hN5⟩; have HRM9 := Lib.hid (HRM.out _ hN5))
                  | (go_at_call 13; refine HRM9.out.mono ?_; rintro e w6 ⟨rfl, hN6⟩; have HA9 := Lib.hid (HA.out _ hN6))
                  | (go_at_call 12; refine HA9.out.mono ?_; rintro e w7 ⟨rfl, hN7⟩; have HF9 := Lib.hid (HF.out _ hN7))
                  | (go_at_call 17; refine HF9.out.mono ?_; rintro e w8 ⟨rfl, rfl⟩)
                  | (go_at_call 11; refine (num_any _ _).mono ?_; rintro e w' ⟨rfl, rfl⟩)
                  | (go_at_call 8; refine (live_any _).mono ?_; rintro e w9 ⟨rfl, hb9⟩))
                go_ret
                exact ⟨rfl, below_step hN7.bel hb9⟩
  · have HLV := Lib.hid (live_any w)
    have hq : hugeB l = true ∨ (hugeB l = false ∧ 20000 < s.length) := by
      cases hh : hugeB l with
      | true => exact .inl rfl
      | false => exact .inr ⟨rfl, by rw [hh] at hgood; simp at hgood; omega⟩
    clear hgood hl hr ho hp
    rcases hq with hq | ⟨hq, hm⟩
    · rw [hq] at HH
      clear hq
      go_enter Try.func6, Try.ntmps6
      go_wp2_with (first
        | (go_at_call 7; refine HH.out.mono ?_; rintro e w' ⟨rfl, rfl⟩)
        | (go_at_call 8; refine HLV.out.mono ?_; rintro e w' ⟨rfl, hb⟩))
      go_ret
      exact ⟨rfl, hb⟩
    · rw [hq] at HH
      have d0 : decide ((20000 : Int) < (s.length : Int)) = true := by simp; omega
      clear hq hm
      go_enter Try.func6, Try.ntmps6
      go_wp2_with (first
        | (go_at_call 7; refine HH.out.mono ?_; rintro e w' ⟨rfl, rfl⟩)
        | (go_at_call 8; refine HLV.out.mono ?_; rintro e w' ⟨rfl, hb⟩))
      go_ret
      exact ⟨rfl, hb⟩
end Go.Proofs.Ytfkolemkmhcbfaa
