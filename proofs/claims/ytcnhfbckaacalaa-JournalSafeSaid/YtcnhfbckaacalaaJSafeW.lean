/- The walk of the statement JournalSafe. -/
import Derived.Test.YtcnhfbckaacalaaJouG
import Derived.Test.YtcnhfbckaacalaaJHuge
namespace Go.Proofs.Ytcnhfbckaacalaa
open Go.RowKit
set_option linter.unusedVariables false

theorem huge_not {l : List ActV} {n : Nat} (hl : l.length = n) (h : hugeB l = false) : n ≤ 120 ∧ ∀ a ∈ l, a.p.length ≤ 20000 := by
  unfold hugeB at h
  rw [decide_eq_false_iff_not] at h
  refine ⟨by omega, fun a ha => ?_⟩
  obtain ⟨j, hj, rfl⟩ := List.getElem_of_mem ha
  have := sumP_mono l j hj
  omega
theorem u8_wrap {n : Nat} (h : n < 256) : IntKind.u8.wrap (n : Int) = (n : Int) := by
  show (n : Int) % 256 = _
  omega
set_option maxRecDepth 100000 in
set_option maxHeartbeats 8000000 in
theorem safe_any (bl : Int) (A : Option Addr) (n c : Nat) (l : List ActV) (B : Option Addr) (m c' : Nat) (zs : List Int) (w : World) (hb1 : -9223372036854775808 ≤ bl) (hb2 : bl ≤ 9223372036854775807) (hl : l.length = n) (hnc : n ≤ c) (hc : c ≤ 9223372036854775807) (hr : RdA w A l) (ho : ∀ a ∈ l, a.Ok)
    (hl' : zs.length = m) (hmc : m ≤ c') (hc' : c' ≤ 9223372036854775807) (hr' : RdK .i64 w B zs) (ho' : ∀ z ∈ zs, -9223372036854775808 ≤ z ∧ z ≤ 9223372036854775807) :
    Calls Try.prog 5 #[.int .i64 bl, .slice A n c, .slice B m c'] w (Yes w) := by
  have HH := Lib.hid (huge_any A l n c w hl (by omega) hr ho)
  have HL := Lib.hid hl
  have HO := Lib.hid ho
  have HR := Lib.hid hr
  have HL' := Lib.hid hl'
  have HO' := Lib.hid ho'
  have HR' := Lib.hid hr'
  clear hl ho hr hl' ho' hr'
  obtain ⟨hg, hhg⟩ : ∃ hg, hugeB l = hg := ⟨_, rfl⟩
  rw [hhg] at HH
  have HHG := Lib.hid hhg
  clear hhg
  cases hg with
  | true =>
    clear HHG
    go_enter Try.func5, Try.ntmps5
    go_wp2_with (first
      | (go_at_call 22; refine HH.out.mono ?_; rintro e w' ⟨rfl, rfl⟩)
      | (go_at_call 9; refine (live_any _).mono ?_; rintro r w1 ⟨rfl, hb9⟩))
    go_ret
    exact ⟨rfl, hb9⟩
  | false =>
    by_cases b3 : bl < 1
    · have d5 : decide (bl < 1) = true := by simpa using b3
      go_enter Try.func5, Try.ntmps5
      go_wp2_with (first
        | (go_at_call 22; refine HH.out.mono ?_; rintro e w' ⟨rfl, rfl⟩)
        | (go_at_call 9; refine (live_any _).mono ?_; rintro r w1 ⟨rfl, hb9⟩))
      go_ret
      exact ⟨rfl, hb9⟩
    have d5 : decide (bl < 1) = false := by simpa using b3
    by_cases b4 : 10 < bl
    · have d6 : decide (10 < bl) = true := by simpa using b4
      go_enter Try.func5, Try.ntmps5
      go_wp2_with (first
        | (go_at_call 22; refine HH.out.mono ?_; rintro e w' ⟨rfl, rfl⟩)
        | (go_at_call 9; refine (live_any _).mono ?_; rintro r w1 ⟨rfl, hb9⟩))
      go_ret
      exact ⟨rfl, hb9⟩
    have d6 : decide (10 < bl) = false := by simpa using b4
    by_cases b8 : 8 < m
    · have d7 : decide ((8 : Int) < (m : Int)) = true := by simp; omega
      go_enter Try.func5, Try.ntmps5
      go_wp2_with (first
        | (go_at_call 22; refine HH.out.mono ?_; rintro e w' ⟨rfl, rfl⟩)
        | (go_at_call 9; refine (live_any _).mono ?_; rintro r w1 ⟨rfl, hb9⟩))
      go_ret
      exact ⟨rfl, hb9⟩
    have d7 : decide ((8 : Int) < (m : Int)) = false := by simp; omega
    have HSM := Lib.hid (huge_not HL.out HHG.out).2
    have hn1 := (huge_not HL.out HHG.out).1
    clear HHG
    go_enter Try.func5, Try.ntmps5
    go_upto_region 3 with (go_at_call 22; refine HH.out.mono ?_; rintro e w' ⟨rfl, rfl⟩)
    obtain ⟨bn, rfl⟩ := Int.eq_ofNat_of_zero_le (show 0 ≤ bl by omega)
    have hbn1 : 1 ≤ bn := by omega
    have hbn2 : bn ≤ 10 := by omega
    have hm1 : m ≤ 8 := by omega
    clear d5 d6 d7 b3 b4 b8 hb1 hb2 HH
    have HN := Lib.hid (new_ok 12 64 w (by omega) (by omega) (by omega) (by omega))
    obtain ⟨r0, r1, h0⟩ := jon_fresh 2 bn 0 12 (by omega) (by omega)
    have HD0 := Lib.hid (DS.fresh_ok (nb := 12) (size := 64) (by omega) (by omega) (by omega) (by omega))
    obtain ⟨D0, hD0⟩ : ∃ D0, DS.fresh 12 64 = D0 := ⟨_, rfl⟩
    rw [hD0] at HN r0 h0 HD0
    have HR0 := Lib.hid r0
    have HR1 := Lib.hid r1
    have H0 := Lib.hid h0
    have HLG := Lib.hid (show D0.log.length = 0 by rw [← hD0]; rfl)
    clear hD0 r0 r1 h0
    go_upto_region 4 with (go_at_call 10; refine HN.out.mono ?_; rintro e w1 ⟨pd, p, rfl, hD1, hb1, hF1⟩)
    obtain ⟨pa, hpa⟩ : ∃ pa, w1.heap.size = pa := ⟨_, rfl⟩
    have hA2 : Blk (w1.alloc (.cells #[.int .i64 2, .int .i64 (bn : Int)] 34)) pa 34 #[.int .i64 2, .int .i64 (bn : Int)] := by rw [← hpa]; exact Blk.new _ _ _
    have hF2 : ∀ k, p.F pd k → w.heap.size ≤ k ∧ k < pa := fun k hk => ⟨hF1 k hk, by rw [← hpa]; exact hD1.lt k hk⟩
    have hpaw : w.heap.size ≤ pa := by rw [← hpa]; exact hb1.size
    go_upto_region 5 with (fail)
    refine wp_world (fun V => (DiskAt pd p D0 V ∧ Below w.heap.size w V) ∧ Blk V pa 34 #[.int .i64 2, .int .i64 (bn : Int)]) ⟨⟨hD1.keep (below_alloc _ _), below_step hb1 (below_alloc _ _)⟩, hA2⟩ ?_
    clear HN hA2 hF1 hD1 hb1 hpa
    rintro w2 ⟨⟨hD2, hb2⟩, hA2⟩
    have e0 : w2.cell? ⟨pa, 0, none⟩ = some (.int .i64 2) := hA2.cell 0
    have e1 : w2.cell? ⟨pa, 1, none⟩ = some (.int .i64 (bn : Int)) := hA2.cell 1
    have hpa2 := hA2.lt
    have HOP := Lib.hid (zopen_any hD2 HD0.out hb2 bn 0 hA2 (fun k hk => ⟨(hF2 k hk).1, by have := (hF2 k hk).2; omega⟩) (by rw [H0.out.nb_]; omega) (by omega) (by omega) (by omega) H0.out.off HR0.out (by omega) HR1.out)
    clear hD2 hb2 hA2 hF2
    go_upto_region 8 with (first
      | (go_at_call 11; refine (num_any _ _).mono ?_; rintro e w' ⟨rfl, rfl⟩)
      | (go_at_call 12; refine HOP.out.mono ?_; rintro e w3 ⟨hb3, pj0, v0, A2, cA, vals, rfl, hZ3, hRc3⟩))
    have HZ3 := Lib.hid hZ3
    clear HOP hb3 hZ3 hRc3 e0 e1
    go_upto_region 12 with (go_at_call 11; refine (num_any _ _).mono ?_; rintro e w' ⟨rfl, rfl⟩)
    have hpa3 := HZ3.out.area.lt
    go_loopw [10, 13, 14] (fun jv u r wr => ∃ (R pj : Nat) (v : Value) (p : Pl) (J : JV) (D : DS) (all : List (List UInt8)), R ≤ m + 1 ∧ r = .int .i64 (R : Int) ∧ jv = .pointer (some ⟨pj, 0, none⟩) ∧ (JZ w pa bn pj v J pd p D wr ∧ Want (pa + 1) wr u all pd p pj v) ∧ JGn bn D J all all.length ∧ J.life ≤ R + 1 ∧ D.log.length ≤ R * 1400 ∧ all.length ≤ R * 120) (fun _ _ r _ => m + 1 - (intOf r).toNat)
    case atStart => exact ⟨0, pj0, v0, p, _, D0, [], by omega, rfl, rfl, ⟨HZ3.out, Want.nil_ _ _ _ _ _ _⟩, H0.out.gen, Nat.le_refl _, by rw [HLG.out]; omega, Nat.zero_le _⟩
    case round =>
      obtain ⟨R, pj, v, p, J, D, all, hR, rfl, rfl, ⟨hZ, hW⟩, hG, hlf, hlg, hal⟩ := hrel
      clear HZ3 hpa3
      by_cases hRm : R ≤ m
      rotate_left
      · have d1 : decide (R ≤ m) = false := by simpa using hRm
        have HB := Lib.hid hZ.jd.bel
        clear hZ hW hG
        go_wp2_with (go_at_call 9; refine (live_from HB.out).mono ?_; rintro r w1 ⟨rfl, hb9⟩)
        go_ret
        exact ⟨rfl, hb9⟩
      have d1 : decide (R ≤ m) = true := by simpa using hRm
      obtain ⟨Au, cu, hu, -, -⟩ := own_rdt hW.own
      subst hu
      have hRc8 : R ≤ 8 := by omega
      by_cases hRc : R < m
      case' pos =>
        have d2 : decide (R < m) = true := by simpa using hRc
        have d0 : decide ((0 : Int) ≤ (R : Int)) = true := by simp
        have hzl : R < zs.length := by rw [HL'.out]; exact hRc
        have hzb := HO'.out _ (List.getElem_mem hzl)
        obtain ⟨b, off, rfl, hcell⟩ := HR'.out.at_ hzl
        have hcell : wr.cell? ⟨b, off + R, none⟩ = some (.int .i64 (zs[R])) := (hZ.jd.bel.cell (World.block_lt_of_cell? w _ hcell)).trans hcell
        generalize zs[R] = z at *
        obtain ⟨ok9, hby, hsz, hnb9, hlog9⟩ := jcut_ok hZ.jd.ok hzb.2
        have HC : Hid (Calls Try.prog 23 #[.pointer (some ⟨pd, 0, none⟩), .int .i64 z] wr fun e w' => e = .returned (.tuple #[]) ∧ JZ w pa bn pj v J pd p (D.cut z) w' ∧ Want (pa + 1) w' (.slice Au all.length cu) all pd p pj v) := (cut_any hZ.jd.disk z).mono fun e w' ⟨he, ha⟩ => by
          have h9 := hZ.jd.beside ha ok9 hnb9 hsz
          exact ⟨he, hZ.act h9, hW.act h9⟩
        have HG9 := Lib.hid (hG.disk hby hsz hnb9)
        clear hZ hW hG hzb
        go_upto_region 17 with (go_at_call 23; refine HC.out.mono ?_; rintro e w4 ⟨rfl, hZ4, hW4⟩)
        refine wp_world (fun V => ∃ p5 D5, (JZ w pa bn pj v J pd p5 D5 V ∧ Want (pa + 1) V (.slice Au all.length cu) all pd p5 pj v) ∧ JGn bn D5 J all all.length ∧ D5.log.length ≤ R * 1400) ⟨p, D.cut z, ⟨hZ4, hW4⟩, HG9.out, by rw [hlog9]; exact hlg⟩ ?_
        clear hZ4 hW4 HC HG9 hby hsz hnb9 hlog9 ok9 hlg
      case' neg =>
        have d2 : decide (R < m) = false := by simpa using hRc
        have HZ := Lib.hid (And.intro hZ hW)
        clear hZ hW
        go_upto_region 17 with (fail)
        refine wp_world (fun V => ∃ p5 D5, (JZ w pa bn pj v J pd p5 D5 V ∧ Want (pa + 1) V (.slice Au all.length cu) all pd p5 pj v) ∧ JGn bn D5 J all all.length ∧ D5.log.length ≤ R * 1400) ⟨p, D, HZ.out, hG, hlg⟩ ?_
        clear HZ hG hlg
      all_goals
        rintro w5 ⟨p5, D5, ⟨hZ5, hW5⟩, hG5, hlg5⟩
        have HS5 := Lib.hid (And.intro (And.intro hZ5 hW5) hG5)
        have hpa5 := hZ5.area.lt
        clear hZ5 hW5 hG5
        go_upto_region 18 with (fail)
        go_loopw [13, 15, 16] (fun uv sv iv wr => ∃ (t cc : Nat) (v' : Value) (p' : Pl) (J' : JV) (D' : DS) (all' : List (List UInt8)), t ≤ n ∧ iv = .int .i64 (t : Int) ∧ sv = .int .i64 (cc : Int) ∧ (JZ w pa bn pj v' J' pd p' D' wr ∧ Want (pa + 1) wr uv all' pd p' pj v') ∧ JGn bn D' J' all' cc ∧ J'.life ≤ R + 1 ∧ D'.log.length ≤ R * 1400 + t * 11 ∧ all'.length ≤ R * 120 + t) (fun _ _ iv _ => n - (intOf iv).toNat)
        case atStart => exact ⟨0, all.length, v, p5, J, D5, all, Nat.zero_le _, rfl, rfl, HS5.out.1, HS5.out.2, hlf, by omega, by omega⟩
        case round =>
          obtain ⟨t, cc, v', p', J', D', all', ht, rfl, rfl, ⟨hZ, hW⟩, hG, hlf', hlg', hal'⟩ := hrel
          clear HS5 hpa5
          by_cases hlt : t < n
          · have d3 : decide (t < n) = true := by simpa using hlt
            have d0 : decide ((0 : Int) ≤ (t : Int)) = true := by simp
            have hkl : t < l.length := by rw [HL.out]; exact hlt
            obtain ⟨b9, off9, hA9, B9, cB9, k0, k1, k2, hrp, hcp⟩ := (HR.out.below hZ.jd.bel).at_ hkl
            have hpl := HSM.out _ (List.getElem_mem hkl)
            have HAT : Hid (∀ V, Below w.heap.size w V → ∃ B' c', V.cell? ⟨b9, off9 + t * 3 + 2, none⟩ = some (.slice B' (l[t]).p.length c') ∧ Rd V B' (l[t]).p) := fun V hV => by
              obtain ⟨b8, off8, hA8, B8, cB8, _, _, h2, h3, _⟩ := (HR.out.below hV).at_ hkl
              rw [hA9] at hA8
              injection hA8 with hA8
              injection hA8 with e1 e2
              subst e1 e2
              exact ⟨B8, cB8, h2, h3⟩
            generalize l[t] = act at *
            obtain ⟨ak, an, ap⟩ := act
            simp only at k0 k1 k2 hrp hcp hpl HAT
            subst hA9
            by_cases hk1 : ak = 1
            · subst hk1
              obtain ⟨Au2, cu2, hu2, -, -⟩ := own_rdt hW.own
              subst hu2
              obtain ⟨e, J2, D2, hF, hG2, hl2, hg2⟩ := hG.flush hZ.jd.jok hZ.jd.ok (by omega)
              have HF : Hid (Calls Try.prog 19 #[.pointer (some ⟨pj, 0, none⟩)] wr fun r w' => r = .returned (.int .i64 (e : Int)) ∧ ∃ v'' p'', JZ w pa bn pj v'' J2 pd p'' D2 w' ∧ Want (pa + 1) w' (.slice Au2 all'.length cu2) all' pd p'' pj v'') := by
                have h9 := jflush_any hZ.jd.anew (by omega)
                rw [hF] at h9
                exact h9.mono fun r w' ⟨h1, v'', p'', h2⟩ => ⟨h1, v'', p'', hZ.act h2, hW.act h2⟩
              have HG2 := Lib.hid (And.intro hG2 (And.intro (show J2.life ≤ R + 1 by omega) (show D2.log.length ≤ R * 1400 + (t + 1) * 11 by omega)))
              clear hF hZ hW hG hG2 hl2 hg2 hrp k1 k2 HAT
              by_cases he : e = 0
              · subst he
                have HG3 : Hid (JGn bn D2 J2 all' all'.length) := by
                  have h9 := HG2.out.1
                  rw [if_pos rfl] at h9
                  exact h9
                go_wp2_with (first
                  | (go_at_call 11; refine (num_any _ _).mono ?_; rintro e w' ⟨rfl, rfl⟩)
                  | (go_at_call 19; refine HF.out.mono ?_; rintro r w9 ⟨rfl, v9, p9, hZ9⟩; (have HZ9 := Lib.hid hZ9); clear hZ9 HF))
                go_roundw
                case rel => exact ⟨t + 1, all'.length, v9, p9, J2, D2, all', by omega, by go_num, rfl, HZ9.out, HG3.out, HG2.out.2.1, HG2.out.2.2, by omega⟩
                case measure => simp [intOf]; omega
              · have d4 : ((e : Int) == 0) = false := by simp; omega
                have HG3 : Hid (JGn bn D2 J2 all' cc) := by
                  have h9 := HG2.out.1
                  rw [if_neg he] at h9
                  exact h9
                go_wp2_with (first
                  | (go_at_call 11; refine (num_any _ _).mono ?_; rintro e w' ⟨rfl, rfl⟩)
                  | (go_at_call 19; refine HF.out.mono ?_; rintro r w9 ⟨rfl, v9, p9, hZ9⟩; (have HZ9 := Lib.hid hZ9); clear hZ9 HF))
                go_roundw
                case rel => exact ⟨t + 1, cc, v9, p9, J2, D2, all', by omega, by go_num, rfl, HZ9.out, HG3.out, HG2.out.2.1, HG2.out.2.2, by omega⟩
                case measure => simp [intOf]; omega
            · have d4 : (ak == 1) = false := by simpa using hk1
              have q1 := u8_wrap (n := R) (by omega)
              have q2 := u8_wrap (n := t) (by omega)
              have hbA := below_alloc wr (.cells #[.int .u8 (R : Int), .int .u8 (t : Int)] 5)
              have HA : Hid ((wr.alloc (.cells #[.int .u8 (R : Int), .int .u8 (t : Int)] 5)).ownsRow wr.heap.size 5 1 (.slice (some ⟨wr.heap.size, 0, none⟩) 2 2) 2 [.int .u8 (R : Int), .int .u8 (t : Int)] ∧ Rd (wr.alloc (.cells #[.int .u8 (R : Int), .int .u8 (t : Int)] 5)) B9 ap) := ⟨World.ownsRow_lit wr #[.int .u8 (R : Int), .int .u8 (t : Int)] 2 (Nat.le_refl _) (by unfold maxLen; omega) rfl, hrp.below hbA⟩
              obtain ⟨pl, hpl2⟩ : ∃ pl, ap.length = pl := ⟨_, rfl⟩
              rw [hpl2] at k2 hpl HAT
              have HPL := Lib.hid hpl2
              have HLM : Hid ((ap.map bv).length = pl * 1) := by show _ = _; rw [List.length_map, hpl2]; omega
              have hone := bvs_one ap
              have hmx : 2 + pl ≤ maxLen := by unfold maxLen; omega
              have hbx : (2 + pl) * 1 ≤ 140737488355328 := by omega
              have hbs : wr.heap.size ≤ (wr.alloc (.cells #[.int .u8 (R : Int), .int .u8 (t : Int)] 5)).heap.size := hbA.size
              have HS := Lib.hid (And.intro (And.intro hZ hW) hG)
              have k2' : (wr.alloc (.cells #[.int .u8 (R : Int), .int .u8 (t : Int)] 5)).cell? ⟨b9, off9 + t * 3 + 2, none⟩ = some (.slice B9 pl cB9) := (hbA.cell (World.block_lt_of_cell? wr _ k2)).trans k2
              clear hZ hW hG hrp k1 hpl2
              go_upto_region 24 with (at_builtin; (with_reducible refine wpList_app bytesT rfl (.tmp 105) (.tmp 110) rfl wr.heap.size (.slice (some ⟨wr.heap.size, 0, none⟩) 2 2) 2 [.int .u8 (R : Int), .int .u8 (t : Int)] rfl HA.out.1 B9 pl cB9 (ap.map bv) rfl HLM.out HA.out.2.cs hone hmx hbx hbs ?_); intro v7 w7 ho7 hg7 hw7)
              have hf7 : Fr (fun k => k = wr.heap.size) (wr.alloc (.cells #[.int .u8 (R : Int), .int .u8 (t : Int)] 5)) w7 := Fr.of_grown hg7 (fun k e _ => by injection e with e; exact e.symm)
              have hb7 : Below wr.heap.size wr w7 := hbA.trans (hf7.below hbs (fun k e => by omega))
              obtain ⟨rc, hrc⟩ : ∃ rc, UInt8.ofNat R :: UInt8.ofNat t :: ap = rc := ⟨_, rfl⟩
              have hrcm : [Value.int .u8 (R : Int), .int .u8 (t : Int)] ++ ap.map bv = rc.map bv := by
                rw [← hrc]
                simp only [List.map_cons, List.cons_append, List.nil_append, bv]
                rw [UInt8.toNat_ofNat', UInt8.toNat_ofNat', Nat.mod_eq_of_lt (by omega), Nat.mod_eq_of_lt (by omega)]
              rw [hrcm] at ho7
              obtain ⟨A7, c7, hv7, hr7, hl7, -⟩ := own_rd ho7
              subst hv7
              have hA7 : ∀ b off, A7 = some ⟨b, off, none⟩ → wr.heap.size ≤ b := fun b off e => by
                subst e
                exact (World.ownsRow.lt ho7 b rfl).1
              obtain ⟨rl, hrl⟩ : ∃ rl, 2 + pl = rl := ⟨_, rfl⟩
              rw [hrl] at hl7 ⊢
              have hrl2 : rl ≤ 20002 := by omega
              have HJ7 : Hid (∀ b off, A7 = some ⟨b, off, none⟩ → ¬ JF pd p' pj v' b) := fun b off e hk => by
                have h9 := HS.out.1.1.jd.jf_lt hk
                have h8 := hA7 b off e
                omega
              refine wp_world (fun V => (JZ w pa bn pj v' J' pd p' D' V ∧ Want (pa + 1) V u13 all' pd p' pj v') ∧ Rd V A7 rc) ⟨⟨HS.out.1.1.keep hb7, HS.out.1.2.keep hb7⟩, hr7⟩ ?_
              have HG := Lib.hid HS.out.2
              have HL7 := Lib.hid hl7
              clear HS HA HLM hone hmx hbx hbs hbA k2' k2 ho7 hg7 hw7 hf7 hb7 hrc hrcm hr7 hA7 hrl hl7 HAT k0 d4
              rintro w8 ⟨⟨hZ, hW⟩, hr8⟩
              obtain ⟨ra, hra⟩ : ∃ ra, J'.records = ra := ⟨_, rfl⟩
              have hra9 : ra ≤ 1300 := by rw [← hra, HG.out.st.recs]; omega
              have HRE : Hid (Calls Try.prog 20 #[.pointer (some ⟨pj, 0, none⟩)] w8 fun e w' => e = .returned (.int .i64 (ra : Int)) ∧ w8 = w') := by rw [← hra]; exact jrecords_any hZ.jd
              obtain ⟨e, J9, D9, all9, hap, hG9, hways, hl9, hg9⟩ := HG.out.app hZ.jd.jok hZ.jd.ok (p := rc) (by rw [HL7.out]; omega) (by omega)
              have HAP : Hid (Calls Try.prog 17 #[.pointer (some ⟨pj, 0, none⟩), .slice A7 rl c7] w8 fun r w' => r = .returned (.int .i64 (e : Int)) ∧ ∃ v'' p'', JZ w pa bn pj v'' J9 pd p'' D9 w' ∧ Want (pa + 1) w' u13 all' pd p'' pj v'' ∧ Rd w' A7 rc) := by
                have h9 := jappend_any hZ.jd.anew rc A7 rl c7 HL7.out (by omega) hr8 (by rw [HG.out.len_]; omega)
                rw [hap] at h9
                exact h9.mono fun r w' ⟨h1, v'', p'', h2⟩ => ⟨h1, v'', p'', hZ.act h2, hW.act h2, h2.belx.rd hr8 (fun b off e _ => HJ7.out b off e)⟩
              have HG9 := Lib.hid (And.intro hG9 (And.intro (show J9.life ≤ R + 1 by omega) (show D9.log.length ≤ R * 1400 + (t + 1) * 11 by omega)))
              rw [hra] at hways
              have q3 : IntKind.i64.wrap ((ra : Int) + 1) = (ra : Int) + 1 := IntWalk.i64_in _ (by omega)
              clear hap hG9 hl9 hg9 hZ hW hr8 hra HG
              obtain ⟨r9, hr9⟩ : ∃ r9, J9.records = r9 := ⟨_, rfl⟩
              have HRC : Hid (J9.records = r9) := hr9
              rw [hr9] at hways
              clear hr9
              rcases hways with ⟨e9, rfl⟩ | ⟨e9, rfl⟩
              · have d5 : ((r9 : Int) == (ra : Int) + 1) = false := by simp; omega
                clear e9
                go_wp2_with (first
                  | (go_at_call 17; refine HAP.out.mono ?_; rintro r w9 ⟨rfl, v9, p9, hZ9, hW9, hr9⟩; (have HRE2 : Hid (Calls Try.prog 20 #[.pointer (some ⟨pj, 0, none⟩)] w9 fun e w' => e = .returned (.int .i64 (r9 : Int)) ∧ w9 = w') := by (rw [← HRC.out]; exact jrecords_any hZ9.jd)); (have HZ9 := Lib.hid (And.intro hZ9 hW9)); clear hZ9 hW9 hr9 HAP)
                  | (go_at_call 20; refine HRE2.out.mono ?_; rintro e w' ⟨rfl, rfl⟩)
                  | (go_at_call 20; refine HRE.out.mono ?_; rintro e w' ⟨rfl, rfl⟩))
                go_roundw
                case rel => exact ⟨t + 1, cc, v9, p9, J9, D9, all9, by omega, by go_num, rfl, HZ9.out, HG9.out.1, HG9.out.2.1, HG9.out.2.2, by omega⟩
                case measure => simp [intOf]; omega
              · have d5 : ((r9 : Int) == (ra : Int) + 1) = true := by simp; omega
                clear e9
                go_upto_region 27 with (first
                  | (go_at_call 17; refine HAP.out.mono ?_; rintro r w9 ⟨rfl, v9, p9, hZ9, hW9, hr9⟩; (have HRE2 : Hid (Calls Try.prog 20 #[.pointer (some ⟨pj, 0, none⟩)] w9 fun e w' => e = .returned (.int .i64 (r9 : Int)) ∧ w9 = w') := by (rw [← HRC.out]; exact jrecords_any hZ9.jd)); (have HZ9 := Lib.hid (And.intro (And.intro hZ9 hW9) hr9)); clear hZ9 hW9 hr9 HAP)
                  | (go_at_call 20; refine HRE2.out.mono ?_; rintro e w' ⟨rfl, rfl⟩)
                  | (go_at_call 20; refine HRE.out.mono ?_; rintro e w' ⟨rfl, rfl⟩))
                have hst := run_str (P := Try.prog) Try.underlying23 Try.underlying5 Try.underlying9 w9 A7 rl c7 rc HL7.out HZ9.out.2
                have hbA := below_alloc w9 (.cells #[.string ⟨rc.toArray⟩] 9)
                have HA : Hid (JZ w pa bn pj v9 J9 pd p9 D9 (w9.alloc (.cells #[.string ⟨rc.toArray⟩] 9)) ∧ Want (pa + 1) (w9.alloc (.cells #[.string ⟨rc.toArray⟩] 9)) u13 all' pd p9 pj v9) := ⟨HZ9.out.1.1.keep hbA, HZ9.out.1.2.keep hbA⟩
                have hbs : pa + 1 ≤ (w9.alloc (.cells #[.string ⟨rc.toArray⟩] 9)).heap.size := by have := HZ9.out.1.1.area.lt; have := hbA.size; omega
                have hone := one_cell_t rc
                have hmx : all'.length + 1 ≤ maxLen := by simp only [maxLen]; omega
                have hbx : (all'.length + 1) * 16 ≤ 140737488355328 := by omega
                have hcs : Cs (w9.alloc (.cells #[.string ⟨rc.toArray⟩] 9)) (some ⟨w9.heap.size, 0, none⟩) [tv rc] := cs_tv w9 rc
                clear HZ9 hbA
                go_wp2_with (at_builtin; (with_reducible refine wpList_app textsT rfl (.tmp 122) (.tmp 125) rfl (pa + 1) u13 all'.length (all'.map tv) rfl HA.out.2.own (some ⟨w9.heap.size, 0, none⟩) 1 1 [tv rc] rfl rfl hcs hone hmx hbx hbs ?_); intro v12 w12 ho12 hg12 hw12)
                have HE : Hid (JZ w pa bn pj v9 J9 pd p9 D9 w12 ∧ Want (pa + 1) w12 v12 (all' ++ [rc]) pd p9 pj v9) := ⟨HA.out.1.grown hg12 (fun g hg => ⟨HA.out.2.sep g hg, by have := (World.ownsRow.lt HA.out.2.own g hg).1; omega, by have := (World.ownsRow.lt HA.out.2.own g hg).1; omega⟩), HA.out.2.app HA.out.1.jd hg12 ho12 hw12⟩
                clear ho12 hg12 hw12 hcs hone
                go_roundw
                case rel => exact ⟨t + 1, cc, v9, p9, J9, D9, all' ++ [rc], by omega, by go_num, rfl, HE.out, HG9.out.1, HG9.out.2.1, HG9.out.2.2, by rw [List.length_append]; simp; omega⟩
                case measure => simp [intOf]; omega
          · obtain rfl : t = n := by omega
            have d3 : decide (t < t) = false := by simp
            have HRS : Hid (Calls Try.prog 24 #[.pointer (some ⟨pd, 0, none⟩)] wr fun e w' => e = .returned (.tuple #[]) ∧ ∃ p8, JZ w pa bn pj v' J' pd p8 { D' with left := -1, off := false } w' ∧ Want (pa + 1) w' u13 all' pd p8 pj v') := (restore_any hZ.jd.disk).mono fun e w' ⟨he, p8, ha⟩ => by
              have h9 := hZ.jd.beside ha (jback_ok hZ.jd.ok) rfl rfl
              exact ⟨he, p8, hZ.act h9, hW.act h9⟩
            have hG8 : JGn bn { D' with left := -1, off := false } J' all' cc := hG.disk rfl rfl rfl
            obtain ⟨D8, hD8⟩ : ∃ D8, ({ D' with left := -1, off := false } : DS) = D8 := ⟨_, rfl⟩
            have hoff8 : D8.off = false := by rw [← hD8]
            have hlog8 : D8.log.length ≤ R * 1400 + t * 11 := by rw [← hD8]; exact hlg'
            rw [hD8] at HRS hG8
            clear hZ hW hG hD8 hlg'
            go_upto_region 29 with (go_at_call 24; refine HRS.out.mono ?_; rintro e w9 ⟨rfl, p8, hZ8, hW8⟩)
            obtain ⟨RS, lf, k, o1, o2, o3, o4, o5, o6⟩ := hG8.opened hZ8.jd.jok
            obtain ⟨Au3, cu3, hu3, hrt, hl3, hcu, hcm⟩ := own_rdt2 hW8.own
            subst hu3
            obtain ⟨rs, hrs⟩ : ∃ rs, all'.take k = rs := ⟨_, rfl⟩
            obtain ⟨sf, hsf⟩ : ∃ sf, (laidSs rs).length = sf := ⟨_, rfl⟩
            have hkk : rs.length = k := by rw [← hrs, List.length_take]; omega
            rw [hrs, hsf] at o3 o6
            have hrt9 : RdT w9 Au3 rs := by rw [← hrs]; exact rdt_take hrt k
            have HOP : Hid (Calls Try.prog 12 #[.pointer (some ⟨pd, 0, none⟩), .agg #[.int .i64 2, .int .i64 (bn : Int)], .int .i64 0] w9 (ZOpened2 w pa bn w9 pd p8 D8 ⟨2, bn, 0, lf + 1, RS.take sf, sf, rs.length, false⟩ rs)) := zopen2_any hZ8.jd.disk hZ8.jd.ok hZ8.jd.bel bn 0 hZ8.area hZ8.fresh (by rw [hG8.nb_]; omega) (by omega) (by omega) (by omega) hoff8 o1 (by omega) o3
            obtain ⟨al, hal3⟩ : ∃ al, all'.length = al := ⟨_, rfl⟩
            have hWc := hW8
            have HAL3 := Lib.hid hal3
            rw [hal3] at hcu hal' o5 hl3 hWc ⊢
            have HW := Lib.hid (And.intro hWc (And.intro hrt9 hl3))
            have HO6 := Lib.hid (And.intro o6 hrs)
            obtain ⟨e0, e1⟩ := hZ8.cells
            have hk0 : k ≤ cu3 := by omega
            have hcm9 : cu3 ≤ 140737488355328 ∨ True := .inr trivial
            clear HRS hG8 o1 o3 o6 hZ8 hW8 hWc hrt hrt9 hl3 hrs hal3 hcm9
            go_upto_region 30 with (go_at_call 12; refine HOP.out.mono ?_; rintro r w10 ⟨hb10, pk, vk, Am, cm, valsm, rfl, hZk, hRm, hq⟩)
            rw [hkk] at hRm
            have HSA := Lib.hid (same_any Am Au3 k cm k cu3 rs rs w10 hkk hkk hRm.rdl (HW.out.2.1.below hb10) (by omega))
            rw [decide_eq_true (rfl : rs = rs)] at HSA
            have HZ10 := Lib.hid (And.intro hZk (HW.out.1.renew hb10 hq))
            have d4 : decide (k < cc) = false := by simp; omega
            have d5 : decide (al < k) = false := by simp; omega
            have d6 : decide ((0 : Int) ≤ (k : Int)) = true := by simp
            clear hZk hRm hq HOP hb10
            go_wp2_with (first
              | (go_at_call 11; refine (num_any _ _).mono ?_; rintro e w' ⟨rfl, rfl⟩)
              | (go_at_call 21; refine HSA.out.mono ?_; rintro r w15 ⟨rfl, q15, rfl⟩))
            go_roundw
            case rel =>
              refine ⟨R + 1, pk, vk, p8, _, D8, rs, by omega, by go_num, rfl, ⟨HZ10.out.1.drewN q15, ?_⟩, ?_, ?_, by omega, by omega⟩
              · rw [← HO6.out.2]
                exact (HZ10.out.2.keep (below_drewN (Below.refl _ _) q15)).cut_ (by omega) HAL3.out
              · rw [hkk]
                have h9 := HO6.out.1
                rw [hkk] at h9
                exact h9
              · show lf + 1 ≤ R + 1 + 1
                omega
            case measure => simp [intOf]; omega
end Go.Proofs.Ytcnhfbckaacalaa
