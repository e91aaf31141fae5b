/- The walk of the statement SealBack. -/
import Derived.Test.YthdhinhedgcbcaaRoomW
import Derived.Deep.QuietTactic
import Derived.BigQuiet
import Derived.IntWalk
namespace Go.Proofs.Ythdhinhedgcbcaa
open Go.RowKit
set_option linter.unusedVariables false

/-- Where Put gives a block. -/
theorem putP_zero {size : Int} {kind num : Nat} {load pl : List UInt8} (h : putP size kind num load = (0, pl)) : ∃ s : Nat, size = (s : Int) ∧ 64 ≤ s ∧ s ≤ 4096 ∧ kind ≠ 0 ∧ load.length + 15 ≤ s := by
  unfold putP at h
  split at h
  · cases h
  · rename_i h1
    split at h
    · cases h
    · rename_i h2
      have hr : room size ≠ 0 := fun e => h1 (.inl e)
      have hk : kind ≠ 0 := fun e => h1 (.inr e)
      have h4 : 64 ≤ size ∧ size ≤ 4096 := by
        unfold room at hr
        split at hr
        · exact absurd rfl hr
        · split at hr
          · exact absurd rfl hr
          · omega
      obtain ⟨s, rfl⟩ := Int.eq_ofNat_of_zero_le (show 0 ≤ size by omega)
      rw [room_is (by omega) (by omega)] at h2
      exact ⟨s, rfl, by omega, by omega, hk, by omega⟩

theorem bytes_app (a b : List UInt8) : (⟨a.toArray⟩ : ByteArray) ++ ⟨b.toArray⟩ = ⟨(a ++ b).toArray⟩ := by
  apply ByteArray.ext
  simp [ByteArray.data_append]

/-- What the pieces are. -/
theorem chunks_at {r : Nat} {l : List UInt8} {m k : Nat} (hr : 1 ≤ r) (hm : (l.length + r - 1) / r = m) (hk : k < m) (hkl : k < (chunks r l).length) :
    (chunks r l)[k] = (l.drop (k * r)).take r ∧ 1 ≤ ((l.drop (k * r)).take r).length ∧ (k + 1 < m → ((l.drop (k * r)).take r).length = r) := by
  refine ⟨by simp [chunks, upto], ?_, fun h => ?_⟩
  · have := pieces_lt (n := l.length) hr (by rw [hm]; exact hk)
    simp
    omega
  · have := pieces_lt (n := l.length) (k := k + 1) hr (by rw [hm]; exact h)
    rw [Nat.succ_mul] at this
    simp
    omega

set_option maxHeartbeats 400000 in
theorem sback_out (size : Int) (kind num : Int) (A A2 : Option Addr) (n c n2 c2 : Nat) (w : World) (h : 20000 < n ∨ 20000 < n2) :
    Calls Try.prog 6 #[.int .i64 size, .agg #[.int .u8 kind, .int .u64 num, .slice A n c], .slice A2 n2 c2] w (Yes w) := by
  have h2 : decide (20000 < (n : Int)) = true ∨ (decide (20000 < (n : Int)) = false ∧ decide (20000 < (n2 : Int)) = true) := by
    simp only [decide_eq_true_eq, decide_eq_false_iff_not]; omega
  clear h
  rcases h2 with h1 | ⟨h1, h2⟩
  all_goals
    go_enter Try.func6, Try.ntmps6
    go_wp2_with (go_at_call 8; refine (live_from (below_alloc w _)).mono ?_; rintro e w1 ⟨rfl, hb1⟩)
    go_ret
    exact ⟨rfl, hb1⟩

set_option maxRecDepth 100000 in
set_option maxHeartbeats 1000000 in
theorem sback_none (size : Int) (kind num : Nat) (A A2 : Option Addr) (n c n2 c2 : Nat) (load : List UInt8) (w : World) (h1 : n ≤ 20000) (h2 : n2 ≤ 20000) (hk : kind < 256) (hnum : num < 18446744073709551616) (hl : load.length = n) (hr : Rd w A load) (hrm : room size = 0) :
    Calls Try.prog 6 #[.int .i64 size, .agg #[.int .u8 kind, .int .u64 num, .slice A n c], .slice A2 n2 c2] w (Yes w) := by
  have d1 : decide (20000 < (n : Int)) = false := by simp; omega
  have d2 : decide (20000 < (n2 : Int)) = false := by simp; omega
  have HRM := Lib.hid (fun W => room_any size W)
  rw [hrm] at HRM
  have HP := Lib.hid (put_bad (pe := 2) (pl := []) (by unfold putP; rw [if_pos (.inl hrm)]) (by omega) (put_any size kind num A n c load (w.alloc (.cells #[.int .u8 (kind : Int), .int .u64 (num : Int), .slice A n c] 25)) hk hnum hl (hr.below (below_alloc _ _))))
  have HPA := Lib.hid (fun W => sparts_no size A2 n2 c2 W hrm)
  clear hl hrm
  go_enter Try.func6, Try.ntmps6
  go_upto_region 11 with (first
    | (go_at_call 9; refine HP.out.mono ?_; rintro e w2 ⟨rfl, hb2⟩)
    | (go_at_call 10; refine (num_any _ _).mono ?_; rintro e w' ⟨rfl, rfl⟩)
    | (go_at_call 15; refine (HPA.out _).mono ?_; rintro e w3 ⟨A3, m3, c3, rfl, hm3, _, hb3⟩; obtain rfl : 0 = m3 := hm3))
  have hb := below_step (below_step (below_alloc _ _) hb2) hb3
  clear hb2 hb3
  go_wp2
  refine wp_loop_rounds 1 ?_
  rw [rounds_succ]
  go_wp2_with (first
    | (go_at_call 17; refine (HRM.out _).mono ?_; rintro e w' ⟨rfl, rfl⟩)
    | (go_at_call 8; refine (live_from hb).mono ?_; rintro e w4 ⟨rfl, hb4⟩))
  go_ret
  exact ⟨rfl, hb4⟩

set_option maxRecDepth 100000 in
set_option maxHeartbeats 8000000 in
theorem sback_some (size : Int) (r : Nat) (kind num : Nat) (A A2 : Option Addr) (n c n2 c2 : Nat) (load bs : List UInt8) (w : World) (h1 : n ≤ 20000) (h2 : n2 ≤ 20000) (hk : kind < 256) (hnum : num < 18446744073709551616) (hl : load.length = n) (hr : Rd w A load)
    (hl2 : bs.length = n2) (hc2 : n2 ≤ c2) (hcm2 : c2 ≤ 9223372036854775807) (hr2 : Rd w A2 bs) (hrm : room size = (r : Int)) (hr1 : 49 ≤ r) (hr3 : r ≤ 4081) :
    Calls Try.prog 6 #[.int .i64 size, .agg #[.int .u8 kind, .int .u64 num, .slice A n c], .slice A2 n2 c2] w (Yes w) := by
  have d1 : decide (20000 < (n : Int)) = false := by simp; omega
  have d2 : decide (20000 < (n2 : Int)) = false := by simp; omega
  have HRE := Lib.hid hrm
  have HRM := Lib.hid (fun W => room_any size W)
  rw [hrm] at HRM
  have HL := Lib.hid hl
  have HL2 := Lib.hid hl2
  have hB0 := below_alloc w (.cells #[.int .u8 (kind : Int), .int .u64 (num : Int), .slice A n c] 25)
  have HPA := Lib.hid (fun W (hb : Below w.heap.size w W) => sparts_in size r A2 n2 c2 bs W hrm (by omega) (by omega) hl2 hc2 hcm2 (by omega) (hr2.below hb))
  obtain ⟨m, hm⟩ : ∃ m, (bs.length + r - 1) / r = m := ⟨_, rfl⟩
  have hcl : (chunks r bs).length = m := by rw [chunks_len, hm]
  have hm1 : m ≤ n2 := by rw [← hm, hl2]; exact pieces_le (by omega)
  have HCL := Lib.hid hcl
  have HPL := Lib.hid (fun k (hkm : k < m) (hkl : k < (chunks r bs).length) => chunks_at (l := bs) (show 1 ≤ r by omega) hm hkm hkl)
  have HAL := Lib.hid (show bs.take (m * r) = bs from List.take_of_length_le (by rw [← hm]; exact pieces_ge (by omega)))
  have h3 : ((r : Int) == 0) = false := by simp; omega
  have HP := Lib.hid (put_any size kind num A n c load (w.alloc (.cells #[.int .u8 (kind : Int), .int .u64 (num : Int), .slice A n c] 25)) hk hnum HL.out (hr.below (below_alloc _ _)))
  rcases hp : putP size kind num load with ⟨pe, pl⟩
  clear hl hl2 hrm hcl hm
  by_cases hpe : pe = 0
  · as_aux_lemma =>
    subst hpe
    obtain ⟨s, rfl, h64, h4096, hk0, hn⟩ := putP_zero hp
    have hpl : pl = sealed s kind num load := by
      have h9 := putP_ok (num := num) (load := load) h64 h4096 hk0 hn
      rw [hp] at h9
      injection h9
    subst hpl
    have HG := Lib.hid (put_good hp HP.out)
    have HGP := Lib.hid (get_sealed (num := num) h64 h4096 hk0 hk hnum hn)
    have HSM := Lib.hid (show sameB kind kind num num load load = true by simp [sameB])
    clear HP hp
    go_enter Try.func6, Try.ntmps6
    go_upto_region 5 with (first
      | (go_at_call 9; refine HG.out.mono ?_; rintro e w1 ⟨g, rfl, hb1, hg1, hB1, hlen1⟩)
      | (go_at_call 10; refine (num_any _ _).mono ?_; rintro e w' ⟨rfl, rfl⟩))
    have hrd1 : Rd w1 (some ⟨g, 0, none⟩) (sealed s kind num load) := by have := hB1.rd0 s; rwa [List.take_of_length_le (by omega)] at this
    have hbx := (Blk.new w 25 #[.int .u8 (kind : Int), .int .u64 (num : Int), .slice A n c]).keep hb1
    have hbw := below_step hB0 hb1
    have HGE := Lib.hid (get_good HGP.out (get_any (some ⟨g, 0, none⟩) s s (sealed s kind num load) w1 hlen1 (Nat.le_refl _) (by omega) hrd1))
    rw [HL.out] at HGE
    clear hb1 hg1 hB1 hlen1 HG HGP hB0
    go_upto_region 6 with (go_at_call 11; refine HGE.out.mono ?_; rintro e w2 ⟨B2, cB2, rfl, hrB2, hb2⟩)
    refine wp_world (fun W => Below w.heap.size w W ∧ Blk W w.heap.size 25 #[.int .u8 (kind : Int), .int .u64 (num : Int), .slice A n c] ∧ Blk W w2.heap.size 25 #[.int .u8 (kind : Int), .int .u64 (num : Int), .slice B2 n cB2] ∧ Rd W B2 load)
      ⟨below_step (below_step hbw hb2) (below_alloc _ _), (hbx.keep hb2).alloc _, Blk.new _ _ _, hrB2.below (below_alloc _ _)⟩ ?_
    rintro w3 ⟨hb3, hx3, hy3, hrd3⟩
    have x0 := hx3.cell 0
    have x1 := hx3.cell 1
    have x2 := hx3.cell 2
    have y0 := hy3.cell 0
    have y1 := hy3.cell 1
    have y2 := hy3.cell 2
    have HSA := Lib.hid (same_any kind kind num num A B2 n c n cB2 load load w3 HL.out HL.out (hr.below hb3) hrd3)
    rw [HSM.out] at HSA
    clear hbw hb2 hbx hrB2 hx3 hy3 hrd3 hrd1 HGE
    go_upto_region 8 with (first
      | (go_at_call 10; refine (num_any _ _).mono ?_; rintro e w' ⟨rfl, rfl⟩)
      | (go_at_call 12; refine HSA.out.mono ?_; rintro e w4 ⟨rfl, hb4⟩))
    have hbw := below_step hb3 hb4
    clear hb3 hb4 HSA x0 x1 x2 y0 y1 y2
    go_upto_region 9 with (go_at_call 15; refine (HPA.out _ hbw).mono ?_; rintro e w5 ⟨Al, m5, c5, rfl, hm5, hrl, hb5⟩; obtain rfl : m = m5 := HCL.out.symm.trans hm5; clear hm5)
    have hbw5 := below_step hbw hb5
    clear hbw hb5
    go_wp2
    go_loopw [12, 13] (fun s i wr => ∃ k : Nat, k ≤ m ∧ i = .int .i64 k ∧ s = .string ⟨(bs.take (k * r)).toArray⟩ ∧ Below w5.heap.size w5 wr) (fun _ i _ => m - (intOf i).toNat)
    case atStart => exact ⟨0, Nat.zero_le _, rfl, by simp, Below.refl _ _⟩
    case round =>
      obtain ⟨k, hk, rfl, rfl, hbr⟩ := hrel
      by_cases hlt : k < m
      · have hkl : k < (chunks r bs).length := by rw [HCL.out]; exact hlt
        obtain ⟨bb, off, B, cB, hAl, hcell, hrd⟩ := hrl.at_ hkl
        have hpl := HPL.out k hlt hkl
        rw [hpl.1] at hcell hrd
        obtain ⟨pc, hpc⟩ : ∃ pc, pc = (bs.drop (k * r)).take r := ⟨_, rfl⟩
        rw [← hpc] at hcell hrd
        have hpe : putP (s : Int) 1 0 pc = (0, sealed (s : Int).toNat 1 0 pc) := by
          unfold putP
          have hre := HRE.out
          rw [if_neg (by rw [hre]; omega), hre, if_neg (by rw [hpc]; have := List.length_take_le r (bs.drop (k * r)); omega)]
        have HPC := Lib.hid (fun W (hb : Below w5.heap.size w5 W) => (hb.cell (World.block_lt_of_cell? w5 _ hcell)).trans hcell)
        have cc := HPC.out wr hbr
        obtain ⟨ln, hln⟩ : ∃ ln, pc.length = ln := ⟨_, rfl⟩
        have HPU := Lib.hid (put_ways (size := (s : Int)) (c := cB) (er := 0) hln (hrd.below hbr) (by rw [hpe]))
        have HST := Lib.hid (fun W (hb : Below w5.heap.size w5 W) => run_str (P := Try.prog) Try.underlying23 Try.underlying5 Try.underlying9 W B ln cB pc hln (hrd.below hb))
        have HSN := Lib.hid (show bs.take ((k + 1) * r) = bs.take (k * r) ++ pc by rw [hpc, Nat.succ_mul, List.take_add])
        rw [hln] at HPC cc
        have hl1 : ((ln : Int) == 0) = false := by rw [← hln, hpc]; simp only [beq_eq_false_iff_ne]; omega
        have hway : decide ((k : Int) + 1 < (m : Int)) = false ∨ (decide ((k : Int) + 1 < (m : Int)) = true ∧ ((ln : Int) != (r : Int)) = false) := by
          by_cases h9 : k + 1 < m
          · refine .inr ⟨by simp; omega, ?_⟩
            have := hpl.2.2 h9
            rw [← hln, hpc, this]
            simp
          · exact .inl (by simp; omega)
        have q1 : (0 : Int) ≤ (k : Int) := by omega
        have q2 : (k : Int) < (m : Int) := by omega
        have q3 : decide (k < m) = true := by simp; omega
        have q4 : IntKind.i64.wrap ((k : Int) + 1) = (k : Int) + 1 := IntWalk.i64_in _ (by omega)
        have hsum : (bs.take (k * r)).length + pc.length ≤ 40000 := by
          have e1 := List.length_take_le (k * r) bs
          have e2 := List.length_take_le r (bs.drop (k * r))
          have e3 : (bs.take (k * r)).length ≤ bs.length := by rw [List.length_take]; exact Nat.min_le_right _ _
          rw [HL2.out] at e3
          rw [hpc]
          omega
        subst hAl
        clear hcell hkl hpe hpc hpl hln
        generalize bs.take (k * r) = pre at *
        go_upto_region 14 with (go_at_call 9; refine HPU.out.mono ?_; rintro e w6 ⟨B6, m6, c6, rfl, _, hb6⟩)
        have hbr6 := below_step hbr hb6
        have cc6 := HPC.out w6 hbr6
        have hst6 := fun q => HST.out (w6.drewN q) (below_drewN hbr6 q)
        clear cc hbr hb6 HPU
        rcases hway with h9 | ⟨h9, h10⟩
        all_goals
          go_quiet ((first
            | (go_at_call 10; exact Calls.quiet_of_same ((num_any _ _).mono fun e w' ⟨he, hw⟩ => ⟨he, hw.symm⟩))
            | (go_at_call 17; exact Calls.quiet_of_same ((HRM.out _).mono fun e w' ⟨he, hw⟩ => ⟨he, hw.symm⟩))))
          go_wp2
          go_roundw
          case rel => exact ⟨k + 1, by omega, by go_num, by rw [HSN.out, bytes_app], below_drewN hbr6 _⟩
          case measure => simp [intOf]; omega
      · obtain rfl : m = k := by omega
        have q3 : decide (m < m) = false := by simp
        have HST := Lib.hid (fun W (hb : Below w5.heap.size w5 W) => run_str (P := Try.prog) Try.underlying23 Try.underlying5 Try.underlying9 W A2 n2 c2 bs HL2.out (hr2.below (below_step hbw5 hb)))
        have hst := HST.out wr hbr
        rw [HAL.out]
        clear hlt hk
        go_wp2_with (first
          | (go_at_call 17; refine (HRM.out _).mono ?_; rintro e w' ⟨rfl, rfl⟩)
          | (go_at_call 8; refine (live_from (below_step hbw5 hbr)).mono ?_; rintro e w4 ⟨rfl, hb4⟩))
        go_ret
        exact ⟨rfl, hb4⟩
  · as_aux_lemma =>
    have HB := Lib.hid (put_bad hp hpe HP.out)
    have hpz : ((pe : Int) == 0) = false := by simp; omega
    clear HP hp
    go_enter Try.func6, Try.ntmps6
    go_upto_region 8 with (first
      | (go_at_call 9; refine HB.out.mono ?_; rintro e w2 ⟨rfl, hb2⟩)
      | (go_at_call 10; refine (num_any _ _).mono ?_; rintro e w' ⟨rfl, rfl⟩))
    have hbw := below_step hB0 hb2
    clear hb2 hB0 HB
    go_upto_region 9 with (go_at_call 15; refine (HPA.out _ hbw).mono ?_; rintro e w5 ⟨Al, m5, c5, rfl, hm5, hrl, hb5⟩; obtain rfl : m = m5 := HCL.out.symm.trans hm5; clear hm5)
    have hbw5 := below_step hbw hb5
    clear hbw hb5
    go_wp2
    go_loopw [12, 13] (fun s i wr => ∃ k : Nat, k ≤ m ∧ i = .int .i64 k ∧ s = .string ⟨(bs.take (k * r)).toArray⟩ ∧ Below w5.heap.size w5 wr) (fun _ i _ => m - (intOf i).toNat)
    case atStart => exact ⟨0, Nat.zero_le _, rfl, by simp, Below.refl _ _⟩
    case round =>
      obtain ⟨k, hk, rfl, rfl, hbr⟩ := hrel
      by_cases hlt : k < m
      · have hkl : k < (chunks r bs).length := by rw [HCL.out]; exact hlt
        obtain ⟨bb, off, B, cB, hAl, hcell, hrd⟩ := hrl.at_ hkl
        have hpl := HPL.out k hlt hkl
        rw [hpl.1] at hcell hrd
        obtain ⟨pc, hpc⟩ : ∃ pc, pc = (bs.drop (k * r)).take r := ⟨_, rfl⟩
        rw [← hpc] at hcell hrd
        have hpe : putP size 1 0 pc = (0, sealed size.toNat 1 0 pc) := by
          unfold putP
          have hre := HRE.out
          rw [if_neg (by rw [hre]; omega), hre, if_neg (by rw [hpc]; have := List.length_take_le r (bs.drop (k * r)); omega)]
        have HPC := Lib.hid (fun W (hb : Below w5.heap.size w5 W) => (hb.cell (World.block_lt_of_cell? w5 _ hcell)).trans hcell)
        have cc := HPC.out wr hbr
        obtain ⟨ln, hln⟩ : ∃ ln, pc.length = ln := ⟨_, rfl⟩
        have HPU := Lib.hid (put_ways (size := size) (c := cB) (er := 0) hln (hrd.below hbr) (by rw [hpe]))
        have HST := Lib.hid (fun W (hb : Below w5.heap.size w5 W) => run_str (P := Try.prog) Try.underlying23 Try.underlying5 Try.underlying9 W B ln cB pc hln (hrd.below hb))
        have HSN := Lib.hid (show bs.take ((k + 1) * r) = bs.take (k * r) ++ pc by rw [hpc, Nat.succ_mul, List.take_add])
        rw [hln] at HPC cc
        have hl1 : ((ln : Int) == 0) = false := by rw [← hln, hpc]; simp only [beq_eq_false_iff_ne]; omega
        have hway : decide ((k : Int) + 1 < (m : Int)) = false ∨ (decide ((k : Int) + 1 < (m : Int)) = true ∧ ((ln : Int) != (r : Int)) = false) := by
          by_cases h9 : k + 1 < m
          · refine .inr ⟨by simp; omega, ?_⟩
            have := hpl.2.2 h9
            rw [← hln, hpc, this]
            simp
          · exact .inl (by simp; omega)
        have q1 : (0 : Int) ≤ (k : Int) := by omega
        have q2 : (k : Int) < (m : Int) := by omega
        have q3 : decide (k < m) = true := by simp; omega
        have q4 : IntKind.i64.wrap ((k : Int) + 1) = (k : Int) + 1 := IntWalk.i64_in _ (by omega)
        have hsum : (bs.take (k * r)).length + pc.length ≤ 40000 := by
          have e1 := List.length_take_le (k * r) bs
          have e2 := List.length_take_le r (bs.drop (k * r))
          have e3 : (bs.take (k * r)).length ≤ bs.length := by rw [List.length_take]; exact Nat.min_le_right _ _
          rw [HL2.out] at e3
          rw [hpc]
          omega
        subst hAl
        clear hcell hkl hpe hpc hpl hln
        generalize bs.take (k * r) = pre at *
        go_upto_region 14 with (go_at_call 9; refine HPU.out.mono ?_; rintro e w6 ⟨B6, m6, c6, rfl, _, hb6⟩)
        have hbr6 := below_step hbr hb6
        have cc6 := HPC.out w6 hbr6
        have hst6 := fun q => HST.out (w6.drewN q) (below_drewN hbr6 q)
        clear cc hbr hb6 HPU
        rcases hway with h9 | ⟨h9, h10⟩
        all_goals
          go_quiet ((first
            | (go_at_call 10; exact Calls.quiet_of_same ((num_any _ _).mono fun e w' ⟨he, hw⟩ => ⟨he, hw.symm⟩))
            | (go_at_call 17; exact Calls.quiet_of_same ((HRM.out _).mono fun e w' ⟨he, hw⟩ => ⟨he, hw.symm⟩))))
          go_wp2
          go_roundw
          case rel => exact ⟨k + 1, by omega, by go_num, by rw [HSN.out, bytes_app], below_drewN hbr6 _⟩
          case measure => simp [intOf]; omega
      · obtain rfl : m = k := by omega
        have q3 : decide (m < m) = false := by simp
        have HST := Lib.hid (fun W (hb : Below w5.heap.size w5 W) => run_str (P := Try.prog) Try.underlying23 Try.underlying5 Try.underlying9 W A2 n2 c2 bs HL2.out (hr2.below (below_step hbw5 hb)))
        have hst := HST.out wr hbr
        rw [HAL.out]
        clear hlt hk
        go_wp2_with (first
          | (go_at_call 17; refine (HRM.out _).mono ?_; rintro e w' ⟨rfl, rfl⟩)
          | (go_at_call 8; refine (live_from (below_step hbw5 hbr)).mono ?_; rintro e w4 ⟨rfl, hb4⟩))
        go_ret
        exact ⟨rfl, hb4⟩

/-- SealBack at every input. -/
theorem sealBack_any (size : Int) (kind num : Nat) (A A2 : Option Addr) (n c n2 c2 : Nat) (load bs : List UInt8) (w : World) (hk : kind < 256) (hnum : num < 18446744073709551616) (hl : load.length = n) (hr : Rd w A load)
    (hl2 : bs.length = n2) (hc2 : n2 ≤ c2) (hcm2 : c2 ≤ 9223372036854775807) (hr2 : Rd w A2 bs) :
    Calls Try.prog 6 #[.int .i64 size, .agg #[.int .u8 kind, .int .u64 num, .slice A n c], .slice A2 n2 c2] w (Yes w) := by
  by_cases h : 20000 < n ∨ 20000 < n2
  · exact sback_out size kind num A A2 n c n2 c2 w h
  · by_cases h2 : size < 64 ∨ 4096 < size
    · refine sback_none size kind num A A2 n c n2 c2 load w (by omega) (by omega) hk hnum hl hr ?_
      unfold room
      rcases h2 with h2 | h2
      · rw [if_pos h2]
      · rw [if_neg (by omega), if_pos h2]
    · have hrm : room size = size - 15 := by unfold room; rw [if_neg (by omega), if_neg (by omega)]
      exact sback_some size (size - 15).toNat kind num A A2 n c n2 c2 load bs w (by omega) (by omega) hk hnum hl hr hl2 hc2 hcm2 hr2 (by omega) (by omega) (by omega)
end Go.Proofs.Ythdhinhedgcbcaa
