/- The walk of the statement DiskPlays: the play. -/
import Derived.Test.YtclbhhgifjegiaaPlaysR
namespace Go.Proofs.Ytclbhhgifjegiaa
open Go.RowKit
set_option linter.unusedVariables false
attribute [local go_sem ↓] Go.wp_at_zero Go.wp_at_succ

set_option maxRecDepth 100000 in
set_option maxHeartbeats 4000000 in
theorem plays_good (nb size : Nat) (A : Option Addr) (l : List ActV) (k c : Nat) (w : World) (hl : l.length = k) (hk : k ≤ 9223372036854775807) (hr : RdA w A l) (ho : ∀ a ∈ l, a.Ok) (hh : hugeB l = false) (h1 : 1 ≤ nb) (h2 : nb ≤ 4096) (h3 : 64 ≤ size) (h4 : size ≤ 4096) (h5 : nb * size ≤ 262144) :
    Calls Try.prog 6 #[.int .i64 nb, .int .i64 size, .slice A k c] w (Yes w) := by
  have HH := Lib.hid (huge_any A l k c w hl hk hr ho)
  rw [hh] at HH
  have hk150 := huge_no hl hh
  have HL := Lib.hid hl
  have HO := Lib.hid ho
  clear hl ho hh
  have HN := Lib.hid (new_ok nb size w h1 (by omega) h3 h4)
  have HS := Lib.hid (sim_fresh h1 (show nb ≤ 16384 by omega) h3 h4)
  have qm : ((nb : Int) * (size : Int)) = ((nb * size : Nat) : Int) := by simp
  obtain ⟨tot, htot⟩ : ∃ tot, tot = nb * size := ⟨_, rfl⟩
  rw [← htot] at qm h5
  clear htot
  have d1 : decide (4096 < (nb : Int)) = false := by simp; omega
  have d2 : decide (0 < (nb : Int)) = true := by simp; omega
  have d3 : decide (0 < (size : Int)) = true := by simp; omega
  have d4 : decide ((size : Int) ≤ 4096) = true := by simp; omega
  have d5 : decide ((nb : Int) ≤ 16384) = true := by simp; omega
  have d6 : decide (262144 < (tot : Int)) = false := by simp; omega
  go_enter Try.func6, Try.ntmps6
  go_upto_region 4 with (first
    | (go_at_call 8; refine HH.out.mono ?_; rintro e w' ⟨rfl, rfl⟩)
    | (go_at_call 10; refine HN.out.mono ?_; rintro e w1 ⟨pd0, p0, rfl, hD1, hb1, hF1⟩))
  have HN2 := Lib.hid (rnew_ok nb size w1 h1 (by omega) h3 h4)
  clear d1 d2 d3 d4 d5 d6 qm
  go_upto_region 7 with (first
    | (go_at_call 18; refine HN2.out.mono ?_; rintro e w2 ⟨pr, q0, rfl, hR2, hb2, hF2⟩)
    | (go_at_call 11; refine (num_any _ _).mono ?_; rintro e w' ⟨rfl, rfl⟩))
  have hB0 : Both w pd0 p0 (DS.fresh nb size) pr q0 (RS.fresh nb size) w2 :=
    ⟨(⟨hD1, hb1, hF1⟩ : Own w pd0 p0 _ w1).below hb2, hR2, fun k hk => Nat.le_trans hb1.size (hF2 k hk), fun k hk hq => by have h1 := hD1.lt k hk; have h2 := hF2 k hq; omega⟩
  clear hD1 hb1 hF1 hR2 hb2 hF2 HN HN2 HH
  go_wp2
  go_loopw [7, 11] (fun dv i wr => ∃ (j pd : Nat) (p : Pl) (D : DS) (q : RPl) (R : RS), j ≤ k ∧ i = .int .i64 j ∧ dv = .pointer (some ⟨pd, 0, none⟩) ∧ Sim D R ∧ D.log.length ≤ j ∧ Both w pd p D pr q R wr) (fun _ i _ => k - (intOf i).toNat)
  case atStart => exact ⟨0, pd0, p0, _, q0, _, Nat.zero_le _, rfl, rfl, HS.out, Nat.le_refl _, hB0⟩
  case round =>
    obtain ⟨j, pd, p, D, q, R, hj, rfl, rfl, hS, hlg, hB⟩ := hrel
    clear hB0
    by_cases hlt : j < k
    · have hjl : j < l.length := by rw [HL.out]; exact hlt
      have hok := HO.out _ (List.getElem_mem hjl)
      obtain ⟨b, off, rfl, B, cB, c0, c1, c2, hrB, hcB⟩ := hr.at_ hjl
      generalize (l[j]'hjl) = a at *
      obtain ⟨ak, an, ap⟩ := a
      simp only at c0 c1 c2 hrB hcB
      have hp2 := hok.p2
      have hn1 := hok.n1
      have hn2 := hok.n2
      simp only at hp2 hn1 hn2
      have hd1 : decide (j < k) = true := by simp; omega
      have hbw := hB.own.bel
      have e0 := (hbw.cell (World.block_lt_of_cell? w _ c0)).trans c0
      have e1 := (hbw.cell (World.block_lt_of_cell? w _ c1)).trans c1
      have e2 := (hbw.cell (World.block_lt_of_cell? w _ c2)).trans c2
      have hrB2 := hrB.below hbw
      clear c0 c1 c2 hbw
      go_upto_region 11 with (fail)
      have HA0 : Hid (Both w pd p D pr q R (wr.alloc (.cells #[.int .i64 ak, .int .i64 an, .slice B ap.length cB] 35)) ∧ Blk (wr.alloc (.cells #[.int .i64 ak, .int .i64 an, .slice B ap.length cB] 35)) wr.heap.size 35 #[.int .i64 ak, .int .i64 an, .slice B ap.length cB] ∧ Out pd p pr q wr.heap.size ∧ w.heap.size ≤ wr.heap.size) :=
        ⟨hB.below (below_alloc _ _), Blk.new _ _ _, hB.new_out (Nat.le_refl _), hB.own.bel.size⟩
      generalize wr.heap.size = ga at *
      refine wp_world (fun W => Both w pd p D pr q R W ∧ Blk W ga 35 #[.int .i64 ak, .int .i64 an, .slice B ap.length cB] ∧ Out pd p pr q ga ∧ w.heap.size ≤ ga) HA0.out ?_
      clear HA0 e0 e1 e2 hrB2 hB
      rintro w3 ⟨hB3, hG3, hO3, hga⟩
      have c2 : w3.cell? ⟨ga, 2, none⟩ = some (.slice B ap.length cB) := hG3.cell 2
      have hgl : ga < w3.heap.size := hG3.lt
      have H0 : Hid ((w3.alloc (.cells #[] 5)).ownsRow w3.heap.size 5 1 (.slice (some ⟨w3.heap.size, 0, none⟩) 0 0) 0 [] ∧ Cs (w3.alloc (.cells #[] 5)) B (ap.map bv)) :=
        ⟨⟨rfl, .inr ⟨w3.heap.size, 0, #[], rfl, Nat.le_refl _, heap_alloc_new _ _, Nat.le_refl _, Nat.zero_le _, rfl, rfl⟩⟩, (hrB.below (below_step hB3.own.bel (below_alloc _ _))).cs⟩
      have hone := bvs_one ap
      have hlm : (ap.map bv).length = ap.length * 1 := by simp
      have hmx : 0 + ap.length ≤ maxLen := by simp only [maxLen]; omega
      have hbx : (0 + ap.length) * 1 ≤ 140737488355328 := by omega
      have hbs : w3.heap.size ≤ (w3.alloc (.cells #[] 5)).heap.size := by simp
      have HLM := Lib.hid hlm
      clear hlm
      go_upto_block 2 with (at_builtin; (with_reducible refine wpList_app bytesT rfl (.tmp 93) (.tmp 95) rfl w3.heap.size (.slice (some ⟨w3.heap.size, 0, none⟩) 0 0) 0 [] rfl H0.out.1 B ap.length cB (ap.map bv) rfl HLM.out H0.out.2 hone hmx hbx hbs ?_); intro v' w4 hown4 hgr4 hat4; simp only [Nat.zero_add, List.nil_append] at hown4; obtain ⟨P, cP, hv4, _, _, hcP⟩ := own_rd hown4; subst hv4; have hb4 : Below w3.heap.size w3 w4 := (below_alloc w3 _).grown hgr4 (by simp) (fun k hk => by injection hk with hk; exact Nat.le_of_eq hk); have k0 : w4.cell? ⟨ga, 0, none⟩ = some (.int .i64 ak) := (hG3.keep hb4).cell 0)
      have hB4 := hB3.below hb4
      have hG4 := hG3.keep hb4
      have hgl4 : ga < w4.heap.size := hG4.lt
      have hs43 := hb4.size
      have hs3 := hB3.own.bel.size
      have hOn : ∀ k, w3.heap.size ≤ k → Out pd p pr q k := fun k hk => hB3.new_out hk
      have HON := Lib.hid hOn
      clear H0 hgr4 hat4 hB3 hG3 hb4 k0 c2 hone hmx hbx hbs HLM hOn
      go_cut [7, 14] (fun dv okv wx => okv = .bool true ∧ ∃ (pd' : Nat) (p' : Pl) (D' : DS) (q' : RPl) (R' : RS), dv = .pointer (some ⟨pd', 0, none⟩) ∧ Sim D' R' ∧ D'.log.length ≤ j + 1 ∧ Both w pd' p' D' pr q' R' wx)
      case first =>
        have c0 : w4.cell? ⟨ga, 0, none⟩ = some (.int .i64 ak) := hG4.cell 0
        have c1 : w4.cell? ⟨ga, 1, none⟩ = some (.int .i64 an) := hG4.cell 1
        have c2 : w4.cell? ⟨ga, 2, none⟩ = some (.slice B ap.length cB) := hG4.cell 2
        by_cases k0 : ak = 0
        · as_aux_lemma =>
          subst k0
          obtain ⟨hw1, hS2, hlg2⟩ := sim_write hS an ap (by omega)
          have hrdP : Rd w4 P ap := by
            obtain ⟨P2, c2', hv, hr2, _, _⟩ := own_rd hown4
            cases hv
            exact hr2
          have hRow4 := Row.of_own (w0 := w) hown4 (fun k hk => HON.out k hk) hs3
          obtain ⟨hf, hhf⟩ : ∃ hf, hf = ap.length / 2 := ⟨_, rfl⟩
          have hfl : hf ≤ ap.length := by omega
          have qh : (ap.length : Int) / 2 = (hf : Int) := by omega
          clear hhf
          have hst := fun W (hb : Below w4.heap.size w4 W) => run_str (P := Try.prog) Try.underlying33 Try.underlying5 Try.underlying9 W B ap.length cB ap rfl (hrB.below (below_step hB4.own.bel hb))
          have HST := Lib.hid hst
          have q5 : (0 : Int) ≤ (hf : Int) := by omega
          have q6 : (hf : Int) ≤ (cP : Int) := by omega
          have q7 : (hf : Int) ≤ (ap.length : Int) := by omega
          have q8 : (ap.length : Int) ≤ (cP : Int) := by omega
          clear hst
          have hways : (P = none ∧ cP = 0 ∧ hf = 0 ∧ ap = []) ∨ (∃ g, P = some ⟨g, 0, none⟩ ∧ cP = 0 ∧ hf = 0 ∧ ap = []) ∨ (∃ g, P = some ⟨g, 0, none⟩ ∧ ¬ cP = hf) := by
            rcases hown4.2 with ⟨hv, hn0⟩ | ⟨g, cap, cur, hv, _⟩
            · obtain ⟨e1, _, e3⟩ := Value.slice.inj hv
              exact .inl ⟨e1, e3, by omega, List.eq_nil_of_length_eq_zero hn0⟩
            · obtain ⟨e1, _, e3⟩ := Value.slice.inj hv
              subst e1 e3
              by_cases hc : cP = hf
              · have hf0 : hf = 0 := by omega
                exact .inr (.inl ⟨g, rfl, by omega, hf0, List.eq_nil_of_length_eq_zero (by omega)⟩)
              · exact .inr (.inr ⟨g, rfl, hc⟩)
          have HSx := Lib.hid (fun W (hG : Blk W ga 35 #[.int .i64 0, .int .i64 an, .slice B ap.length cB]) (hb : Below w.heap.size w W) => show W.cell? ⟨ga, 1, none⟩ = some (.int .i64 an) ∧ W.cell? ⟨ga, 2, none⟩ = some (.slice B ap.length cB) ∧ (convert 33 9 (.slice B ap.length cB)).run Try.prog W = .ok (.string ⟨ap.toArray⟩) W from
            ⟨hG.cell 1, hG.cell 2, run_str (P := Try.prog) Try.underlying33 Try.underlying5 Try.underlying9 W B ap.length cB ap rfl (hrB.below hb)⟩)
          obtain ⟨s1, s2, s3⟩ := HSx.out w4.drew (hG4.keep (Below.refl _ _).drew) hB4.own.drew.bel
          have hB4' := fun o => (hB4.below ((below_alloc w4 o).drew)).own.bel
          have hG4' := fun o => hG4.keep ((below_alloc w4 o).drew)
          have HBG := Lib.hid (And.intro hB4' hG4')
          have HW1 := Lib.hid hw1
          have HS2 := Lib.hid hS2
          have HLG2 := Lib.hid hlg2
          clear HST c0 c1 c2 hw1 hS2 hlg2 hB4' hG4' hown4
          go_upto_region 16 with (fail)
          rcases hways with ⟨rfl, rfl, rfl, rfl⟩ | ⟨g, rfl, rfl, rfl, rfl⟩ | ⟨g, rfl, hcne⟩
          · as_aux_lemma =>
            have HW := Lib.hid (write_two (n := an) (B1 := none) (B2 := none) (l1 := []) (l2 := []) (n1 := 0) (n2 := 0) (c1 := 0) (c2 := 0) hB4.own.disk hS.dok rfl rfl (by omega) (.inl rfl) (.inl rfl))
            simp only [List.append_nil] at HW
            go_region_held3 (fun W => W.cell? ⟨ga, 1, none⟩ = some (.int .i64 an) ∧ W.cell? ⟨ga, 2, none⟩ = some (.slice B 0 cB) ∧ (convert 33 9 (.slice B 0 cB)).run Try.prog W = .ok (.string ⟨#[]⟩) W) (first | exact ⟨s1, s2, s3⟩ | exact HSx.out _ (HBG.out.2 _) (HBG.out.1 _) | exact HSx.out _ hG6 hB6.own.bel | exact HSx.out _ hG5 hB5.own.bel) ((first
              | (go_at_call 13
                 refine HW.out.mono ?_
                 rintro e w5 ⟨rfl, p5, hA5⟩
                 have hG5 := (hA5.blk hG4 hO3.d).1
                 have hO5 := hO3.dAct hA5 hgl4
                 have hB5 := hB4.dAct hA5)
              | (go_at_call 11
                 refine (num_any _ _).mono ?_
                 rintro e w' ⟨rfl, rfl⟩)
              | (go_at_call 19
                 refine (rwrite_any (n := an) (p := []) hB5.ref hS.rok hp2).mono ?_
                 rintro e w6 ⟨rfl, q6, hA6⟩
                 have hG6 := hA6.blk hG5 hO5.r
                 have hB6 := hB5.rAct hA6
                 rw [HW1.out])))
            have hRow6 := (hRow4.dAct hA5).rAct hA6
            clear HW HSx HBG s1 s2 s3 hG5 hG6 hB5 hA5 hA6 hRow4 hRow6
            generalize (D.write an []).fst = rr at *
            go_wp2
            refine wp_loop_rounds 1 ?_
            rw [rounds_succ]
            go_wp2
            go_meet
            exact ⟨rfl, pd, p5, (D.write an []).snd, q6, (R.write an []).snd, rfl, HS2.out, by have := HLG2.out; omega, hB6⟩
          · as_aux_lemma =>
            have HW := Lib.hid (write_two (n := an) (B1 := some ⟨g, 0, none⟩) (B2 := some ⟨g, 0, none⟩) (l1 := []) (l2 := []) (n1 := 0) (n2 := 0) (c1 := 0) (c2 := 0) hB4.own.disk hS.dok rfl rfl (by omega) (.inl rfl) (.inl rfl))
            simp only [List.append_nil] at HW
            go_region_held3 (fun W => W.cell? ⟨ga, 1, none⟩ = some (.int .i64 an) ∧ W.cell? ⟨ga, 2, none⟩ = some (.slice B 0 cB) ∧ (convert 33 9 (.slice B 0 cB)).run Try.prog W = .ok (.string ⟨#[]⟩) W) (first | exact ⟨s1, s2, s3⟩ | exact HSx.out _ (HBG.out.2 _) (HBG.out.1 _) | exact HSx.out _ hG6 hB6.own.bel | exact HSx.out _ hG5 hB5.own.bel) ((first
              | (go_at_call 13
                 refine HW.out.mono ?_
                 rintro e w5 ⟨rfl, p5, hA5⟩
                 have hG5 := (hA5.blk hG4 hO3.d).1
                 have hO5 := hO3.dAct hA5 hgl4
                 have hB5 := hB4.dAct hA5)
              | (go_at_call 11
                 refine (num_any _ _).mono ?_
                 rintro e w' ⟨rfl, rfl⟩)
              | (go_at_call 19
                 refine (rwrite_any (n := an) (p := []) hB5.ref hS.rok hp2).mono ?_
                 rintro e w6 ⟨rfl, q6, hA6⟩
                 have hG6 := hA6.blk hG5 hO5.r
                 have hB6 := hB5.rAct hA6
                 rw [HW1.out])))
            have hRow6 := (hRow4.dAct hA5).rAct hA6
            clear HW HSx HBG s1 s2 s3 hG5 hG6 hB5 hA5 hA6 hRow4 hRow6
            generalize (D.write an []).fst = rr at *
            go_wp2
            refine wp_loop_rounds 1 ?_
            rw [rounds_succ]
            go_wp2
            go_meet
            exact ⟨rfl, pd, p5, (D.write an []).snd, q6, (R.write an []).snd, rfl, HS2.out, by have := HLG2.out; omega, hB6⟩
          · as_aux_lemma =>
            have HW := Lib.hid (write_two (n := an) (B1 := some ⟨g, 0, none⟩) (B2 := some ⟨g, hf, none⟩) (l1 := ap.take hf) (l2 := ap.drop hf) (n1 := hf) (n2 := ap.length - hf) (c1 := cP) (c2 := cP - hf) hB4.own.disk hS.dok (by simp; omega) (by simp) (by omega) (hrdP.take_ hf) (by have := hrdP.drop_ hf; simpa using this))
            rw [List.take_append_drop] at HW
            have q9 : ((ap.length : Int) - (hf : Int)).toNat = ap.length - hf := by omega
            have q10 : ((cP : Int) - (hf : Int)).toNat = cP - hf := by omega
            go_region_held3 (fun W => W.cell? ⟨ga, 1, none⟩ = some (.int .i64 an) ∧ W.cell? ⟨ga, 2, none⟩ = some (.slice B ap.length cB) ∧ (convert 33 9 (.slice B ap.length cB)).run Try.prog W = .ok (.string ⟨ap.toArray⟩) W) (first | exact ⟨s1, s2, s3⟩ | exact HSx.out _ (HBG.out.2 _) (HBG.out.1 _) | exact HSx.out _ hG6 hB6.own.bel | exact HSx.out _ hG5 hB5.own.bel) ((first
              | (go_at_call 13
                 refine HW.out.mono ?_
                 rintro e w5 ⟨rfl, p5, hA5⟩
                 have hG5 := (hA5.blk hG4 hO3.d).1
                 have hO5 := hO3.dAct hA5 hgl4
                 have hB5 := hB4.dAct hA5)
              | (go_at_call 11
                 refine (num_any _ _).mono ?_
                 rintro e w' ⟨rfl, rfl⟩)
              | (go_at_call 19
                 refine (rwrite_any (n := an) (p := ap) hB5.ref hS.rok hp2).mono ?_
                 rintro e w6 ⟨rfl, q6, hA6⟩
                 have hG6 := hA6.blk hG5 hO5.r
                 have hB6 := hB5.rAct hA6
                 rw [HW1.out])))
            have hRow6 := (hRow4.dAct hA5).rAct hA6
            clear HW HSx HBG s1 s2 s3 hG5 hG6 hB5 hA5 hA6 hRow4
            generalize (D.write an ap).fst = rr at *
            go_wp2
            obtain ⟨w7, rfl⟩ : ∃ w7 : World, w7 = wr := ⟨_, rfl⟩
            go_loopw [16] (fun i wx => ∃ t : Nat, t ≤ ap.length ∧ i = .int .i64 t ∧ Both w pd p5 (D.write an ap).snd pr q6 (R.write an ap).snd wx ∧ Row w pd p5 pr q6 (.slice (some ⟨g, 0, none⟩) ap.length cP) ap.length wx) (fun i _ => ap.length - (intOf i).toNat)
            case atStart => exact ⟨0, Nat.zero_le _, rfl, hB6, hRow6⟩
            case round =>
              obtain ⟨t, ht, rfl, hB8, hRow8⟩ := hrel
              clear hB6 hRow6
              by_cases htl : t < ap.length
              · obtain ⟨g', cg, z, hvg, hcl, hfz, hnx⟩ := hRow8.at_ hB8 htl
                obtain ⟨e1, _, e3⟩ := Value.slice.inj hvg
                injection e1 with e1
                injection e1 with e1
                subst e1 e3
                have HNX := Lib.hid hnx
                clear hnx
                have hd5 : decide (t < ap.length) = true := by simp; omega
                go_wp2
                go_roundw
                case rel => exact ⟨t + 1, by omega, by go_num, (HNX.out _).2, (HNX.out _).1⟩
                case measure => simp [intOf]; omega
              · have hd5 : decide (t < ap.length) = false := by simp; omega
                go_wp2
                go_meet
                exact ⟨rfl, pd, p5, (D.write an ap).snd, q6, (R.write an ap).snd, rfl, HS2.out, by have := HLG2.out; omega, hB8⟩
        · have q0 : (ak == 0) = false := by simp [k0]
          clear k0
          by_cases k1 : ak = 1
          · as_aux_lemma =>
            subst k1
            clear q0
            obtain ⟨re, rl, hrd⟩ : ∃ re rl, D.read an = (re, rl) := ⟨_, _, rfl⟩
            have hrr : R.read an = (re, rl) := (sim_read hS an).trans hrd
            have HRd := Lib.hid (read_any (n := an) hB4.own.disk hS.dok)
            unfold ReadEnds at HRd
            rw [hrd] at HRd
            have HRr := Lib.hid hrr
            clear hrd hrr
            go_upto_region 23 with (go_at_call 15; refine HRd.out.mono ?_; rintro e w5 ⟨v, rfl, hown5, hb5⟩; obtain ⟨X, cX, hvX, hrX, _, hcX⟩ := own_rd hown5; subst hvX)
            have hB5 := hB4.below hb5
            have hRow5 := Row.of_own (w0 := w) hown5 (fun k hk => hB4.new_out hk) hB4.own.bel.size
            have c1 : w5.cell? ⟨ga, 1, none⟩ = some (.int .i64 an) := (hG4.keep hb5).cell 1
            have HRR := Lib.hid (rread_any (n := an) hB5.ref hS.rok)
            unfold RReadEnds at HRR
            rw [HRr.out] at HRR
            go_upto_region 24 with (go_at_call 20; refine HRR.out.mono ?_; rintro e w6 ⟨rfl, hb6⟩)
            have hst := run_str (P := Try.prog) Try.underlying33 Try.underlying5 Try.underlying9 w6 X rl.length cX rl rfl (hrX.below hb6)
            have hRow6 := hRow5.below hb6
            have hB6 := hB5.below hb6
            have hrl : rl.length ≤ 9223372036854775807 := by
              have h8 := hown5.2
              rcases h8 with ⟨_, h9⟩ | ⟨_, _, _, _, _, _, h9, h10, _⟩
              · omega
              · unfold maxLen at h10; omega
            clear HRd HRr HRR hown5 hb5 hb6 hrX hRow5 hB5 c0 c1 c2
            go_wp2_with (go_at_call 11; refine (num_any _ _).mono ?_; rintro e w' ⟨rfl, rfl⟩)
            obtain ⟨w7, rfl⟩ : ∃ w7 : World, w7 = wr := ⟨_, rfl⟩
            clear hst
            go_loopw [21] (fun i wx => ∃ t : Nat, t ≤ rl.length ∧ i = .int .i64 t ∧ Both w pd p D pr q R wx ∧ Row w pd p pr q (.slice X rl.length cX) rl.length wx) (fun i _ => rl.length - (intOf i).toNat)
            case atStart => exact ⟨0, Nat.zero_le _, rfl, hB6, hRow6⟩
            case round =>
              obtain ⟨t, ht, rfl, hB8, hRow8⟩ := hrel
              clear hB6 hRow6
              by_cases htl : t < rl.length
              · obtain ⟨g, cg, z, hvg, hcl, hfz, hnx⟩ := hRow8.at_ hB8 htl
                injection hvg with e1 e2 e3
                subst e1 e3
                have HNX := Lib.hid hnx
                clear hnx e2
                have hd5 : decide (t < rl.length) = true := by simp; omega
                go_wp2
                go_roundw
                case rel => exact ⟨t + 1, by omega, by go_num, (HNX.out 7).2, (HNX.out 7).1⟩
                case measure => simp [intOf]; omega
              · have hd5 : decide (t < rl.length) = false := by simp; omega
                go_wp2
                go_meet
                exact ⟨rfl, pd, p, D, q, R, rfl, hS, by omega, hB8⟩
          · have q1 : (ak == 1) = false := by simp [k1]
            clear k1
            by_cases k2 : ak = 2
            · as_aux_lemma =>
              subst k2
              clear q0 q1
              have HC := Lib.hid (cut_any hB4.own.disk an)
              go_upto_region 31 with (go_at_call 12; refine HC.out.mono ?_; rintro e w5 ⟨rfl, hA5⟩)
              have hB5 := hB4.dAct hA5
              have c1 : w5.cell? ⟨ga, 1, none⟩ = some (.int .i64 an) := (hA5.blk hG4 hO3.d).1.cell 1
              have HC2 := Lib.hid (rcut_any hB5.ref an)
              go_wp2_with (go_at_call 21; refine HC2.out.mono ?_; rintro e w6 ⟨rfl, hA6⟩)
              go_meet
              exact ⟨rfl, pd, p, D.cut an, q, R.cut an, rfl, (sim_cut hS an hn2).1, by rw [(sim_cut hS an hn2).2]; omega, hB5.rAct hA6⟩
            · have q2 : (ak == 2) = false := by simp [k2]
              clear k2
              by_cases k3 : ak = 3
              · as_aux_lemma =>
                subst k3
                clear q0 q1 q2
                have HC := Lib.hid (restore_any hB4.own.disk)
                go_upto_region 34 with (go_at_call 14; refine HC.out.mono ?_; rintro e w5 ⟨rfl, p5, hA5⟩)
                have hB5 : Both w pd p5 D.back pr q R w5 := hB4.dAct hA5
                have HC2 := Lib.hid (rrestore_any hB5.ref)
                go_wp2_with (go_at_call 22; refine HC2.out.mono ?_; rintro e w6 ⟨rfl, hA6⟩)
                go_meet
                exact ⟨rfl, pd, p5, D.back, q, R.back, rfl, sim_back hS, by show D.log.length ≤ _; omega, hB5.rAct hA6⟩
              · have q3 : (ak == 3) = false := by simp [k3]
                clear k3
                by_cases k4 : ak = 4
                · as_aux_lemma =>
                  subst k4
                  clear q0 q1 q2 q3
                  have HC := Lib.hid (copy_any hB4.own.disk hS.dok)
                  go_upto_region 37 with (go_at_call 23; refine HC.out.mono ?_; rintro e w5 ⟨pc, p', rfl, hD5, hb5, hF5⟩)
                  have HR5 := Lib.hid (restore_own (hB4.own.disk.keep hb5))
                  go_upto_region 38 with (go_at_call 14; refine HR5.out.mono ?_; rintro e w6 ⟨rfl, hD6, hf6⟩)
                  have kc6 := Joins.run_convert_bytes_const_at (P := Try.prog) w6 33 5 #[.int .u8 103, .int .u8 111, .int .u8 110, .int .u8 101] 4 4 w6.heap.size rfl Try.underlying33 Try.underlying5
                  have HW := Lib.hid (write_any (n := 0) (c := 1) (A := some ⟨w6.heap.size + 1, 0, none⟩) (ls := [[103, 111, 110, 101]]) (l := [103, 111, 110, 101]) (m := 1) (w := (w6.alloc (.cells #[.int .u8 103, .int .u8 111, .int .u8 110, .int .u8 101] 5 (4, 5))).alloc (.cells #[.slice (some ⟨w6.heap.size, 0, none⟩) 4 4] 33)) (hD6.keep ((below_alloc w6 _).alloc (by simp) _)) (back_ok hS.dok) rfl rfl (by omega) (by simp) (by
                    have h1 := rdl_one (t := 33) (c := 4) (rd_lit w6 [103, 111, 110, 101] 5 (4, 5)) rfl
                    simp only [World.size_alloc] at h1
                    exact h1))
                  go_wp2_with (go_at_call 13; refine HW.out.mono ?_; rintro e w7 ⟨rfl, p7, hA7⟩)
                  go_meet
                  refine ⟨rfl, pc, p', D, q, R, rfl, hS, by omega, copied (W6 := w6) hB4 hb5 hD5 hF5 hf6 (D7 := (D.back.write 0 [103, 111, 110, 101]).2) (p7 := p7) ⟨hA7.disk, (Fr.of_below ((below_alloc w6 _).alloc (by simp) _) _).same hA7.fr, fun k hk => ?_⟩⟩
                  rcases hA7.grown k hk with h | h
                  · exact .inl h
                  · exact .inr (by simp at h; omega)
                · have q4 : (ak == 4) = false := by simp [k4]
                  clear k4
                  go_wp2
                  go_meet
                  exact ⟨rfl, pd, p, D, q, R, rfl, hS, by omega, hB4⟩
      case rest =>
        as_aux_lemma =>
        obtain ⟨rfl, pd', p', D', q', R', rfl, hS', hlg', hB'⟩ := hcut
        clear hB4 hG4 hown4
        have ok' := hS'.dok
        have hR' := fun W (hb : Below wc.heap.size wc W) => (hB'.ref.keep hb).cells
        have HR' := Lib.hid (fun W (hb : Below wc.heap.size wc W) => show W.cell? ⟨pr, 5, none⟩ = some (.bool D'.off) ∧ W.cell? ⟨pr, 3, none⟩ = some q'.lv ∧ W.cell? ⟨pr, 0, none⟩ = some (.int .i64 (D'.nb : Int)) ∧ W.cell? ⟨pr, 1, none⟩ = some (.int .i64 (D'.size : Int)) from by
          obtain ⟨k0, k1, k2, k3, k4, k5⟩ := hR' W hb
          rw [hS'.off] at k5
          rw [hS'.nb] at k0
          rw [hS'.size] at k1
          exact ⟨k5, k3, k0, k1⟩)
        obtain ⟨g5, g3, g0, g1⟩ := HR'.out wc.drew (Below.refl _ _).drew
        obtain ⟨C, cC, hv, hriC, _, _⟩ := own_rdi hB'.ref.log
        rw [hS'.log] at hriC hv
        have HV := Lib.hid hv
        rw [hv] at g3
        have hrc := hriC
        clear hv hR'
        have hlen' : D'.log.length ≤ 140737488351232 := by have := ok'.lg; omega
        go_upto_region 41 with (fail)
        go_region_held3 (fun W => W.cell? ⟨pr, 5, none⟩ = some (.bool D'.off) ∧ W.cell? ⟨pr, 3, none⟩ = some (.slice C D'.log.length cC) ∧ W.cell? ⟨pr, 0, none⟩ = some (.int .i64 (D'.nb : Int)) ∧ W.cell? ⟨pr, 1, none⟩ = some (.int .i64 (D'.size : Int))) (first | exact ⟨g5, g3, g0, g1⟩ | (have hh := HR'.out _ hb5; rw [HV.out] at hh; exact hh) | (have hh := HR'.out _ (below_drewN hb5 _); rw [HV.out] at hh; exact hh)) ((first
          | (go_at_call 17
             refine (dead_any (hB'.own.disk.keep (Below.refl _ _).drew)).mono ?_
             rintro e w' ⟨rfl, rfl⟩)
          | (go_at_call 16
             refine (log_any (hB'.own.disk.keep (Below.refl _ _).drew) ok').mono ?_
             rintro e w5 ⟨v, rfl, hown5, hb50⟩
             have hb5 : Below wc.heap.size wc w5 := (Below.refl _ _).drew.trans hb50
             obtain ⟨E, cE, rfl, hriE, _, _⟩ := own_rdi hown5)
          | (go_at_call 24
             refine (ints_any E C D'.log D'.log D'.log.length cE D'.log.length cC _ rfl rfl hlen' hlen' hriE (hrc.below hb5)).mono ?_
             rintro e w6 ⟨rfl, q6, rfl⟩)
          | (go_at_call 25
             refine (blocks_any (hB'.own.disk.keep (below_drewN hb5 _)) ok').mono ?_
             rintro e w7 ⟨rfl, q7, rfl⟩)
          | (go_at_call 26
             refine (size_any (hB'.own.disk.keep (below_drewN hb5 _))).mono ?_
             rintro e w8 ⟨rfl, rfl⟩)))
        go_wp2
        go_roundw
        case rel => exact ⟨j + 1, pd', p', D', q', R', by omega, by go_num, rfl, hS', hlg', hB'.below (below_drewN hb5 _)⟩
        case measure => simp [intOf]; omega
    · have hd1 : decide (j < k) = false := by simp; omega
      go_wp2_with (go_at_call 9; refine (live_from hB.own.bel).mono ?_; rintro e w3 ⟨rfl, hb3⟩)
      go_ret
      exact ⟨rfl, hb3⟩
end Go.Proofs.Ytclbhhgifjegiaa
