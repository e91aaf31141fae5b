/- The walk of the statement DiskOff. -/
import Derived.Test.YtclbhhgifjegiaaOffL
namespace Go.Proofs.Ytclbhhgifjegiaa
open Go.RowKit
set_option linter.unusedVariables false
attribute [local go_sem ↓] Go.wp_at_zero Go.wp_at_succ

theorem huge_no {l : List ActV} {k : Nat} (hl : l.length = k) (hh : hugeB l = false) : k ≤ 150 := by
  have : ¬ (150 < l.length ∨ 40000 < sumP l l.length) := by simpa [hugeB] using hh
  omega

set_option maxRecDepth 100000 in
set_option maxHeartbeats 2000000 in
theorem off_in (A A' : Option Addr) (l l' : List ActV) (k c k' c' : Nat) (w : World) (hl : l.length = k) (hk : k ≤ 9223372036854775807) (hr : RdA w A l) (ho : ∀ a ∈ l, a.Ok) (hl' : l'.length = k') (hk' : k' ≤ 9223372036854775807) (hr' : RdA w A' l') (ho' : ∀ a ∈ l', a.Ok) (hh : hugeB l = false) (hh' : hugeB l' = false) :
    Calls Try.prog 5 #[.slice A k c, .slice A' k' c'] w (Yes w) := by
  have HH := Lib.hid (huge_any A l k c w hl hk hr ho)
  rw [hh] at HH
  have HH' := Lib.hid (huge_any A' l' k' c' w hl' hk' hr' ho')
  rw [hh'] at HH'
  have hk150 := huge_no hl hh
  have hk150' := huge_no hl' hh'
  have HL := Lib.hid hl
  have HL' := Lib.hid hl'
  have HO := Lib.hid ho
  have HO' := Lib.hid ho'
  clear hl hl' ho ho' hh hh'
  have HN := Lib.hid (new_ok 16 64 w (by omega) (by omega) (by omega) (by omega))
  go_enter Try.func5, Try.ntmps5
  go_upto_region 6 with (first
    | (go_at_call 8; (with_reducible refine HH.out.mono ?_); rintro e w' ⟨rfl, rfl⟩)
    | (go_at_call 8; (with_reducible refine HH'.out.mono ?_); rintro e w' ⟨rfl, rfl⟩)
    | (go_at_call 10; refine HN.out.mono ?_; rintro e w1 ⟨pd, p, rfl, hD1, hb1, hF1⟩)
    | (go_at_call 11; refine (num_any _ _).mono ?_; rintro e w' ⟨rfl, rfl⟩))
  have hO1 : Own w pd p (DS.fresh 16 64) w1 := ⟨hD1, hb1, hF1⟩
  clear hD1 hb1 hF1 HH HH' HN
  go_wp2
  -- the writes
  go_loopw [7] (fun i wr => ∃ (j : Nat) (p' : Pl) (D : DS), j ≤ k ∧ i = .int .i64 j ∧ OnInv D j ∧ Own w pd p' D wr) (fun i _ => k - (intOf i).toNat)
  case atStart => exact ⟨0, p, _, Nat.zero_le _, rfl, on_start, hO1⟩
  case round =>
    obtain ⟨j, p', D, hj, rfl, hI, hO⟩ := hrel
    clear hO1
    by_cases hlt : j < k
    · have hjl : j < l.length := by rw [HL.out]; exact hlt
      have hok := HO.out _ (List.getElem_mem hjl)
      obtain ⟨b, off, rfl, B, cB, c0, c1, c2, hrB, hcB⟩ := hr.at_ hjl
      have hp2 := hok.p2
      generalize (l[j]'hjl) = a at *
      obtain ⟨ak, an, ap⟩ := a
      simp only at c0 c1 c2 hrB hcB hp2
      have HA := Lib.hid (fun W (hb : Below w.heap.size w W) => act_cells hb c1 c2 hrB)
      clear c0 c1 c2 hrB
      have hd1 : decide (j < k) = true := by simp; omega
      have q1 : (0 : Int) ≤ (j : Int) := by omega
      have q2 : (j : Int) < (k : Int) := by omega
      have HI2 := Lib.hid (on_write hI (by omega) an ap)
      have HW := Lib.hid (write_own_d (n := an) (c := cB) hO hI.ok hp2 (HA.out wr hO.bel).2.2)
      obtain ⟨c1, c2, _⟩ := HA.out wr hO.bel
      go_upto_region 9 with (fail)
      go_region_held3 (fun W => W.cell? ⟨b, off + j * 3 + 1, none⟩ = some (.int .i64 an) ∧ W.cell? ⟨b, off + j * 3 + 2, none⟩ = some (.slice B ap.length cB)) (first | go_keep | exact ⟨(HA.out _ hO3.bel).1, (HA.out _ hO3.bel).2.1⟩) ((first
        | (go_at_call 13
           refine HW.out.mono ?_
           rintro e w3 ⟨rfl, p3, hO3, hA3⟩)))
      clear HW c1 c2 hO hA3
      generalize (D.write an ap).snd = D3 at *
      go_wp2
      go_roundw
      case rel => exact ⟨j + 1, p3, D3, by omega, by go_num, HI2.out, hO3⟩
      case measure => simp [intOf]; omega
    · have hd1 : decide (j < k) = false := by simp; omega
      clear HO hr hlt HL
      have hI3 := hI
      have HI := Lib.hid hI3
      clear hI hI3
      have HFS := Lib.hid hO.disk.lt
      have hwo := hO.bel.size
      go_wp2
      obtain ⟨wo, rfl⟩ : ∃ wo : World, wo = wr := ⟨_, rfl⟩
      -- what was there
      go_loopw [8, 9] (fun v i wr => ∃ t : Nat, t ≤ 16 ∧ i = .int .i64 t ∧ Own w pd p' D wr ∧ wr.ownsRow wo.heap.size 9 1 v t (((List.range t).map D.blockB).map sv) ∧ wo.heap.size ≤ wr.heap.size) (fun _ i _ => 16 - (intOf i).toNat)
      case atStart => exact ⟨0, Nat.zero_le _, rfl, hO, World.ownsRow_nil _ _ _ _, Nat.le_refl _⟩
      case round =>
        obtain ⟨t, ht, rfl, hO4, hown, hsz⟩ := hrel
        clear hO
        by_cases htl : t < 16
        · have HRd := Lib.hid (read_own2 (n := t) hO4 HI.out.ok (on_read HI.out t htl) (block_len HI.out.ok (by rw [HI.out.nb]; exact htl)))
          rw [HI.out.size] at HRd
          go_upto_region 15 with (go_at_call 15; refine HRd.out.mono ?_; rintro e w5 ⟨C, cC, rfl, hrC, hcC, hO5, hb5⟩)
          have hst := run_str (P := Try.prog) Try.underlying33 Try.underlying5 Try.underlying9 w5 C 64 cC (D.blockB t) (by rw [block_len HI.out.ok (by rw [HI.out.nb]; exact htl), HI.out.size]) hrC
          have hb6 := hb5.alloc hb5.size (.cells #[.string ⟨(D.blockB t).toArray⟩] 9)
          have hown6 := hown.kept (grown_of_below hb6 none) (by cases u8.ownBlock <;> simp)
          have hcs : Cs (w5.alloc (.cells #[.string ⟨(D.blockB t).toArray⟩] 9)) (some ⟨w5.heap.size, 0, none⟩) [sv (D.blockB t)] := .inr ⟨_, rfl, cell_one_new w5 (.string ⟨(D.blockB t).toArray⟩) 9⟩
          have hO6 := hO5.below (below_alloc w5 (.cells #[.string ⟨(D.blockB t).toArray⟩] 9))
          have hone : ∀ u ∈ [sv (D.blockB t)], u.oneCell' = true := by intro u hu; simp at hu; subst hu; rfl
          have hmx : t + 1 ≤ maxLen := by simp only [maxLen]; omega
          have hbx : (t + 1) * 16 ≤ 140737488355328 := by omega
          have hbs : wo.heap.size ≤ (w5.alloc (.cells #[.string ⟨(D.blockB t).toArray⟩] 9)).heap.size := Nat.le_trans hsz hb6.size
          have HX := Lib.hid (show ((List.range t).map D.blockB).map sv ++ [sv (D.blockB t)] = ((List.range (t + 1)).map D.blockB).map sv by simp [List.range_succ])
          have H6 := Lib.hid (And.intro hown6 (And.intro hcs hO6))
          clear hown6 hcs hO6 hb6 HRd hO4 hO5
          go_wp2_with (at_builtin; (with_reducible refine wpList_app strsT rfl (.tmp 67) (.tmp 70) rfl wo.heap.size u8 t (((List.range t).map D.blockB).map sv) rfl H6.out.1 (some ⟨w5.heap.size, 0, none⟩) 1 1 [sv (D.blockB t)] rfl rfl H6.out.2.1 hone hmx hbx hbs ?_); intro v' w7 hown7 hgr7 hat7; rw [HX.out] at hown7)
          have hO7 := H6.out.2.2.grownFar hgr7 (fun k hk => by
            have h1 := (hown.lt k hk).1
            have h2 := H6.out.2.2.bel.size
            refine ⟨fun hF => ?_, ?_⟩
            · have := HFS.out k hF; omega
            · omega)
          have hs7 := hgr7.size
          clear H6 hst hown hgr7 hat7
          go_roundw
          case rel => exact ⟨t + 1, by omega, by go_num, hO7, hown7, by omega⟩
          case measure => simp [intOf]; omega
        · obtain rfl : t = 16 := by omega
          obtain ⟨g, cg, hg, hS, hbg⟩ := own_strs hown (by omega)
          subst hg
          have hnF : ¬ p'.F pd g := fun h => by have := HFS.out g h; omega
          obtain ⟨ss, hss⟩ : ∃ ss, ss = (List.range 16).map D.blockB := ⟨_, rfl⟩
          rw [← hss] at hS
          have HSS : Hid (ss.length = 16 ∧ ∀ i, (h : i < ss.length) → ss[i] = D.blockB i) := by
            refine ⟨by rw [hss]; simp, fun i h => ?_⟩
            subst hss
            simp
          clear hown hss hsz ht htl
          obtain ⟨lg, hlg⟩ : ∃ lg, lg = D.log.length := ⟨_, rfl⟩
          have hlgb : lg ≤ 1000000 := by rw [hlg]; exact HI.out.ok.lg
          have HLg := Lib.hid (log_any hO4.disk HI.out.ok)
          rw [← hlg] at HLg
          have HLG := Lib.hid hlg
          clear hlg
          go_upto_region 17 with (go_at_call 16; refine HLg.out.mono ?_; rintro e w6 ⟨v, rfl, hown, hb6⟩; obtain ⟨B, cB, rfl, _, _, _⟩ := own_rdi hown)
          have hO6 := hO4.below hb6
          have hS6 := hS.below hb6
          clear HLg hO4 hb6 hown hS
          have HC := Lib.hid (cut_any hO6.disk 0)
          go_upto_region 18 with (go_at_call 12; refine HC.out.mono ?_; rintro e w7 ⟨rfl, hA7⟩)
          have hO7 := hO6.act hA7
          obtain ⟨hS7, hnF7⟩ := hA7.strs hS6 hnF
          have hG := gone_start HI.out
          clear HC hA7 hO6 hS6
          go_wp2
          obtain ⟨w8, rfl⟩ : ∃ w8 : World, w8 = wr := ⟨_, rfl⟩
          -- the writes behind the cut
          go_loopw [13] (fun i wr => ∃ (t : Nat) (p3 : Pl) (E : DS), t ≤ k' ∧ i = .int .i64 t ∧ GoneInv D E ∧ Own w pd p3 E wr ∧ RdS wr g ss ∧ ¬ p3.F pd g) (fun i _ => k' - (intOf i).toNat)
          case atStart => exact ⟨0, p', _, Nat.zero_le _, rfl, hG, hO7, hS7, hnF7⟩
          case round =>
            obtain ⟨t, p3, E, ht, rfl, hE, hO, hS, hnF3⟩ := hrel
            clear hO7 hS7 hnF7 hG hnF
            by_cases htl : t < k'
            · have hjl : t < l'.length := by rw [HL'.out]; exact htl
              have hok := HO'.out _ (List.getElem_mem hjl)
              obtain ⟨b, off, rfl, B2, cB2, c0, c1, c2, hrB, hcB⟩ := hr'.at_ hjl
              have hp2 := hok.p2
              generalize (l'[t]'hjl) = a at *
              obtain ⟨ak, an, ap⟩ := a
              simp only at c0 c1 c2 hrB hcB hp2
              have HA := Lib.hid (fun W (hb : Below w.heap.size w W) => act_cells hb c1 c2 hrB)
              clear c0 c1 c2 hrB
              have hd2 : decide (t < k') = true := by simp; omega
              have q1 : (0 : Int) ≤ (t : Int) := by omega
              have q2 : (t : Int) < (k' : Int) := by omega
              obtain ⟨hE2, hne⟩ := gone_write hE an ap
              have HE2 := Lib.hid hE2
              have HNE := Lib.hid hne
              have HW := Lib.hid (write_own_d (n := an) (c := cB2) hO hE.ok hp2 (HA.out wr hO.bel).2.2)
              obtain ⟨c1, c2, _⟩ := HA.out wr hO.bel
              clear hE2 hne
              go_upto_region 21 with (fail)
              go_region_held3 (fun W => W.cell? ⟨b, off + t * 3 + 1, none⟩ = some (.int .i64 an) ∧ W.cell? ⟨b, off + t * 3 + 2, none⟩ = some (.slice B2 ap.length cB2)) (first | go_keep | exact ⟨(HA.out _ hO3.bel).1, (HA.out _ hO3.bel).2.1⟩) ((first
                | (go_at_call 13
                   refine HW.out.mono ?_
                   rintro e w3 ⟨rfl, p4, hO3, hA3⟩)))
              obtain ⟨hS3, hnF4⟩ := hA3.strs hS hnF3
              clear HW c1 c2 hO hA3 hS hnF3
              generalize (E.write an ap) = EE at *
              obtain ⟨er, E3⟩ := EE
              have hne := HNE.out
              simp only at hne
              go_wp2_with (go_at_call 11; refine (num_any _ _).mono ?_; rintro e w' ⟨rfl, rfl⟩)
              go_roundw
              case rel => exact ⟨t + 1, p4, E3, by omega, by go_num, HE2.out, hO3, hS3, hnF4⟩
              case measure => simp [intOf]; omega
            · have hd2 : decide (t < k') = false := by simp; omega
              obtain ⟨z1, z2, hE2⟩ := gone_dead hE
              have HW0 := Lib.hid (write_own0 (n := 0) hO hE.ok)
              rw [z1] at HW0
              clear z1
              generalize (E.write 0 []).snd = E2 at *
              have HZ2 := Lib.hid z2
              clear z2 hE
              go_upto_region 26 with (first
                | (go_at_call 13; refine HW0.out.mono ?_; rintro e w9 ⟨rfl, p9, hO9, hA9⟩)
                | (go_at_call 17; refine (dead_any hO9.disk).mono ?_; rintro e w' ⟨rfl, rfl⟩; rw [HZ2.out]))
              obtain ⟨hS9, hnF9⟩ := hA9.strs hS hnF3
              clear HW0 hA9 hO hS hnF3
              have HC := Lib.hid (cut_any hO9.disk 100)
              rw [gone_cut HZ2.out] at HC
              go_upto_region 27 with (go_at_call 12; refine HC.out.mono ?_; rintro e w10 ⟨rfl, hA10⟩)
              have hO10 := hO9.act hA10
              obtain ⟨hS10, hnF10⟩ := hA10.strs hS9 hnF9
              clear HC hA10 hO9 hS9 hnF9
              have HR1 := Lib.hid (read_own2 (n := 1) hO10 hE2.ok (gone_read hE2 HZ2.out) rfl)
              go_upto_region 28 with (go_at_call 15; refine HR1.out.mono ?_; rintro e w11 ⟨C1, cC1, rfl, _, _, hO11, hb11⟩)
              have hS11 := hS10.below hb11
              clear HR1 hO10 hS10 hb11
              have HRs := Lib.hid (restore_any hO11.disk)
              go_upto_region 29 with (go_at_call 14; refine HRs.out.mono ?_; rintro e w12 ⟨rfl, p12, hA12⟩)
              have hO12 : Own w pd p12 E2.back w12 := hO11.act hA12
              obtain ⟨hS12, hnF12⟩ := hA12.strs hS11 hnF10
              clear HRs hA12 hO11 hS11 hnF10
              have ok12 := back_ok hE2.ok
              have HE := Lib.hid hE2
              clear hE2
              go_wp2
              obtain ⟨w13, rfl⟩ : ∃ w13 : World, w13 = wr := ⟨_, rfl⟩
              go_loopw [17] (fun i wr => ∃ s : Nat, s ≤ 16 ∧ i = .int .i64 s ∧ Own w pd p12 E2.back wr ∧ RdS wr g ss) (fun i _ => 16 - (intOf i).toNat)
              case atStart => exact ⟨0, Nat.zero_le _, rfl, hO12, hS12⟩
              case round =>
                obtain ⟨s, hs, rfl, hO14, hS14⟩ := hrel
                clear hO12 hS12
                by_cases hsl : s < 16
                · have hbl : (D.blockB s).length = 64 := by rw [block_len HI.out.ok (by rw [HI.out.nb]; exact hsl), HI.out.size]
                  have HRd := Lib.hid (read_own2 (n := s) hO14 ok12 (back_read HI.out HE.out s hsl) hbl)
                  have hsl2 : s < ss.length := by rw [HSS.out.1]; exact hsl
                  have hSs := HSS.out.2 s hsl2
                  have HBL := Lib.hid hbl
                  clear hbl
                  go_upto_region 33 with (go_at_call 15; refine HRd.out.mono ?_; rintro e w15 ⟨C, cC, rfl, hrC, hcC, hO15, hb15⟩)
                  have hS15 := hS14.below hb15
                  have hcl : w15.cell? ⟨g, s, none⟩ = some (.string ⟨(D.blockB s).toArray⟩) := by have := hS15.2 s hsl2; rwa [hSs] at this
                  have hst := fun q => run_str (P := Try.prog) Try.underlying33 Try.underlying5 Try.underlying9 (w15.drewN q) C 64 cC (D.blockB s) HBL.out hrC
                  clear HRd hO14 hS14 hb15 hSs
                  have q5 : (0 : Int) ≤ (s : Int) := by omega
                  have q6 : (s : Int) < 16 := by omega
                  generalize D.blockB s = x at *
                  go_quiet ((go_at_call 11; exact num_q _ _ _))
                  go_wp2
                  go_roundw
                  case rel => exact ⟨s + 1, by omega, by go_num, hO15.below (below_drewN (Below.refl _ _) nq), hS15.below (below_drewN (Below.refl _ _) nq)⟩
                  case measure => simp [intOf]; omega
                · have HLg := Lib.hid (log_any hO14.disk ok12)
                  rw [show E2.back.log.length = lg by show E2.log.length = _; rw [HE.out.log, HLG.out]] at HLg
                  have Hbw := Lib.hid (back_write HE.out)
                  go_wp2_with (first
                    | (go_at_call 11; refine (num_any _ _).mono ?_; rintro e w' ⟨rfl, rfl⟩)
                    | (go_at_call 16; refine HLg.out.mono ?_; rintro e w16 ⟨v, rfl, hown, hb16⟩; obtain ⟨B3, cB3, rfl, _, _, _⟩ := own_rdi hown)
                    | (go_at_call 13; refine (write_own0 (n := 0) (hO14.below hb16) ok12).mono ?_; rw [Hbw.out]; rintro e w17 ⟨rfl, p17, hO17, _⟩)
                    | (go_at_call 9; refine (live_from hO17.bel).mono ?_; rintro e w18 ⟨rfl, hb18⟩))
                  go_ret
                  exact ⟨rfl, hb18⟩

set_option maxRecDepth 100000 in
set_option maxHeartbeats 600000 in
theorem off_out (A A' : Option Addr) (l l' : List ActV) (k c k' c' : Nat) (w : World) (hl : l.length = k) (hk : k ≤ 9223372036854775807) (hr : RdA w A l) (ho : ∀ a ∈ l, a.Ok) (hl' : l'.length = k') (hk' : k' ≤ 9223372036854775807) (hr' : RdA w A' l') (ho' : ∀ a ∈ l', a.Ok) (hh : hugeB l = true ∨ (hugeB l = false ∧ hugeB l' = true)) :
    Calls Try.prog 5 #[.slice A k c, .slice A' k' c'] w (Yes w) := by
  have HH := Lib.hid (huge_any A l k c w hl hk hr ho)
  have HH' := Lib.hid (huge_any A' l' k' c' w hl' hk' hr' ho')
  clear hl ho hr hl' ho' hr'
  rcases hh with h1 | ⟨h1, h2⟩
  · rw [h1] at HH
    clear h1
    go_enter Try.func5, Try.ntmps5
    go_wp2_with (first
      | (go_at_call 8; (with_reducible refine HH.out.mono ?_); rintro e w' ⟨rfl, rfl⟩)
      | (go_at_call 9; refine (live_any w).mono ?_; rintro e w1 ⟨rfl, hb1⟩))
    go_ret
    exact ⟨rfl, hb1⟩
  · rw [h1] at HH
    rw [h2] at HH'
    clear h1 h2
    go_enter Try.func5, Try.ntmps5
    go_wp2_with (first
      | (go_at_call 8; (with_reducible refine HH.out.mono ?_); rintro e w' ⟨rfl, rfl⟩; clear HH)
      | (go_at_call 8; (with_reducible refine HH'.out.mono ?_); rintro e w' ⟨rfl, rfl⟩)
      | (go_at_call 9; refine (live_any w).mono ?_; rintro e w1 ⟨rfl, hb1⟩))
    go_ret
    exact ⟨rfl, hb1⟩

/-- DiskOff at every input. -/
theorem off_any (A A' : Option Addr) (l l' : List ActV) (k c k' c' : Nat) (w : World) (hl : l.length = k) (hk : k ≤ 9223372036854775807) (hr : RdA w A l) (ho : ∀ a ∈ l, a.Ok) (hl' : l'.length = k') (hk' : k' ≤ 9223372036854775807) (hr' : RdA w A' l') (ho' : ∀ a ∈ l', a.Ok) :
    Calls Try.prog 5 #[.slice A k c, .slice A' k' c'] w (Yes w) := by
  cases h : hugeB l with
  | true => exact off_out A A' l l' k c k' c' w hl hk hr ho hl' hk' hr' ho' (.inl h)
  | false =>
    cases h' : hugeB l' with
    | true => exact off_out A A' l l' k c k' c' w hl hk hr ho hl' hk' hr' ho' (.inr ⟨h, h'⟩)
    | false => exact off_in A A' l l' k c k' c' w hl hk hr ho hl' hk' hr' ho' h h'
end Go.Proofs.Ytclbhhgifjegiaa
