/- The walk of the statement SealRoom. -/
import Derived.Test.YthdhinhedgcbcaaSealY
namespace Go.Proofs.Ythdhinhedgcbcaa
open Go.RowKit
set_option linter.unusedVariables false

set_option maxHeartbeats 400000 in
theorem room_out (size n : Int) (w : World) (h : n < 0 ∨ 20000 < n) : Calls Try.prog 7 #[.int .i64 size, .int .i64 n] w (Yes w) := by
  have h2 : decide (n < 0) = true ∨ (decide (n < 0) = false ∧ decide (20000 < n) = true) := by simp only [decide_eq_true_eq, decide_eq_false_iff_not]; omega
  clear h
  rcases h2 with h1 | ⟨h1, h2⟩
  all_goals
    go_enter Try.func7, Try.ntmps7
    go_wp2_with (go_at_call 8; refine (live_any w).mono ?_; rintro e w1 ⟨rfl, hb1⟩)
    go_ret
    exact ⟨rfl, hb1⟩

/-- The first act: n bytes, Put of them. -/
def RP (w : World) (n : Nat) (W : World) : Prop := Below w.heap.size w W ∧ Rd W (some ⟨w.heap.size, 0, none⟩) (List.replicate n 0)
theorem rp_new (w : World) (n : Nat) : RP w n (w.alloc (.cells (zerosB n) 5)) := by
  refine ⟨below_alloc _ _, ?_⟩
  have := (Blk.new w 5 (zerosB n)).rd (l := List.replicate n 0) 0 n (by simp)
  simpa using this
theorem RP.step {w W W' : World} {n : Nat} (h : RP w n W) (hb : Below W.heap.size W W') : RP w n W' := ⟨below_step h.1 hb, h.2.below hb⟩

theorem put_ways {size : Int} {n c : Nat} {load : List UInt8} {W : World} {A : Option Addr} (hl : load.length = n) (hr : Rd W A load) {er : Nat} (he : (putP size 1 0 load).1 = er) :
    Calls Try.prog 9 #[.int .i64 size, .agg #[.int .u8 1, .int .u64 0, .slice A n c]] W fun e w' => ∃ B m cB, e = .returned (.tuple #[.slice B m cB, .int .i64 (er : Int)]) ∧ (er ≠ 0 → m = 0) ∧ Below W.heap.size W w' := by
  refine Calls.mono (put_any size 1 0 A n c load W (by omega) (by omega) hl hr) ?_
  rintro e w' ⟨hb, ⟨h1, h2⟩ | ⟨h1, g, h2, _⟩⟩
  · rw [he] at h2
    exact ⟨_, _, _, h2, fun _ => rfl, hb⟩
  · rw [he] at h1
    subst h1
    exact ⟨_, _, _, h2, fun h => absurd rfl h, hb⟩

set_option maxRecDepth 100000 in
set_option maxHeartbeats 1000000 in
theorem room_none (size : Int) (n : Nat) (w : World) (hn : n ≤ 20000) (hrm : room size = 0) : Calls Try.prog 7 #[.int .i64 size, .int .i64 (n : Int)] w (Yes w) := by
  have HRM := Lib.hid (fun W => room_any size W)
  rw [hrm] at HRM
  have HMK := fun W => run_make_bytes bytesT n (by omega) W
  have HPU := Lib.hid (fun W (h : RP w n W) => put_ways (size := size) (c := n) (er := 2) (show (List.replicate n (0 : UInt8)).length = n by simp) h.2 (by unfold putP; rw [if_pos (.inl hrm)]))
  have HPA := Lib.hid (fun W => sparts_no size (some ⟨w.heap.size, 0, none⟩) n n W hrm)
  have h1 : decide ((n : Int) < 0) = false := by simp
  have h2 : decide (20000 < (n : Int)) = false := by simp; omega
  clear hrm
  go_enter Try.func7, Try.ntmps7
  go_upto_region 4 with (fail)
  refine wp_world (RP w n) (rp_new w n) ?_
  intro w1 hR1
  clear HMK
  go_wp2_with (first
    | (go_at_call 9; refine (HPU.out _ hR1).mono ?_; rintro e w2 ⟨B, m, cB, rfl, hm, hb2⟩; obtain rfl := hm (by omega); have hR2 := hR1.step hb2)
    | (go_at_call 17; refine (HRM.out _).mono ?_; rintro e w' ⟨rfl, rfl⟩)
    | (go_at_call 10; refine (num_any _ _).mono ?_; rintro e w' ⟨rfl, rfl⟩)
    | (go_at_call 15; refine (HPA.out _).mono ?_; rintro e w3 ⟨A3, m3, c3, rfl, hm3, _, hb3⟩; obtain rfl : 0 = m3 := hm3; have hR3 := hR2.step hb3)
    | (go_at_call 8; refine (live_from hR3.1).mono ?_; rintro e w4 ⟨rfl, hb4⟩))
  go_ret
  exact ⟨rfl, hb4⟩

set_option maxRecDepth 100000 in
set_option maxHeartbeats 2000000 in
theorem room_some (size : Int) (n r : Nat) (w : World) (hn : n ≤ 20000) (hrm : room size = (r : Int)) (hr1 : 49 ≤ r) (hr2 : r ≤ 4081) (hsz : size - 15 = (r : Int)) : Calls Try.prog 7 #[.int .i64 size, .int .i64 (n : Int)] w (Yes w) := by
  have HRM := Lib.hid (fun W => room_any size W)
  rw [hrm] at HRM
  have HMK := fun W => run_make_bytes bytesT n (by omega) W
  have hs1 : 64 ≤ size := by omega
  have hs2 : size ≤ 4096 := by omega
  obtain ⟨er, her⟩ : ∃ er, er = (putP size 1 0 (List.replicate n 0)).1 := ⟨_, rfl⟩
  have HPU := Lib.hid (fun W (h : RP w n W) => put_ways (size := size) (c := n) (er := er) (show (List.replicate n (0 : UInt8)).length = n by simp) h.2 her.symm)
  have HPA := Lib.hid (fun W (h : RP w n W) => sparts_in size r (some ⟨w.heap.size, 0, none⟩) n n (List.replicate n 0) W hrm (by omega) (by omega) (by simp) (Nat.le_refl _) (by omega) (by omega) h.2)
  have h1 : decide ((n : Int) < 0) = false := by simp
  have h2 : decide (20000 < (n : Int)) = false := by simp; omega
  have h3 : ((r : Int) == 0) = false := by simp; omega
  have her2 : (er = 0 ∧ n ≤ r) ∨ (er = 1 ∧ r < n) := by
    rw [her]
    unfold putP
    rw [if_neg (by omega), hrm]
    by_cases h : (r : Int) < ((List.replicate n (0 : UInt8)).length : Int)
    · rw [if_pos h]; simp at h; exact .inr ⟨rfl, by omega⟩
    · rw [if_neg h]; simp at h; exact .inl ⟨rfl, by omega⟩
  obtain ⟨m, hm⟩ : ∃ m, m = (n + r - 1) / r := ⟨_, rfl⟩
  have hcl : (chunks r (List.replicate n (0 : UInt8))).length = m := by rw [chunks_len, hm]; simp
  have hm1 : m ≤ n := by rw [hm]; exact pieces_le (by omega)
  have hm2 : n ≤ m * r := by rw [hm]; exact pieces_ge (by omega)
  have hm3 : 0 < n → (m - 1) * r < n ∧ 0 < m := by
    intro h0
    have hp : 0 < m := by
      rcases Nat.eq_zero_or_pos m with h | h
      · rw [h, Nat.zero_mul] at hm2; omega
      · exact h
    exact ⟨pieces_lt (by omega) (by rw [← hm]; omega), hp⟩
  have HCL := Lib.hid hcl
  have hmr : m * r ≤ 81620000 := by
    have : m * r ≤ 20000 * 4081 := Nat.mul_le_mul (by omega) hr2
    omega
  have HSZ := hsz
  clear hrm her hm hcl
  rcases her2 with ⟨rfl, hle⟩ | ⟨rfl, hlt⟩
  · have h4 : decide (n ≤ r) = true := by simp; omega
    rcases Nat.eq_zero_or_pos n with h0 | h0
    · have hm0 : ((m : Int) == 0) = true := by simp; omega
      have hn0 : ((n : Int) == 0) = true := by simp [h0]
      clear hm1 hm2 hm3 hmr h0
      go_enter Try.func7, Try.ntmps7
      go_upto_region 4 with (fail)
      refine wp_world (RP w n) (rp_new w n) ?_
      intro w1 hR1
      clear HMK
      go_wp2_with (first
        | (go_at_call 9; refine (HPU.out _ hR1).mono ?_; rintro e w2 ⟨B, mB, cB, rfl, _, hb2⟩; have hR2 := hR1.step hb2)
        | (go_at_call 17; refine (HRM.out _).mono ?_; rintro e w' ⟨rfl, rfl⟩)
        | (go_at_call 10; refine (num_any _ _).mono ?_; rintro e w' ⟨rfl, rfl⟩)
        | (go_at_call 15; refine (HPA.out _ hR2).mono ?_; rintro e w3 ⟨A3, m3, c3, rfl, hm3, _, hb3⟩; obtain rfl : m = m3 := HCL.out.symm.trans hm3; have hR3 := hR2.step hb3; clear hm3)
        | (go_at_call 8; refine (live_from hR3.1).mono ?_; rintro e w4 ⟨rfl, hb4⟩))
      go_ret
      exact ⟨rfl, hb4⟩
    · skip
      have hn0 : ((n : Int) == 0) = false := by simp; omega
      obtain ⟨h7, h8⟩ := hm3 h0
      obtain ⟨p, hp⟩ : ∃ p, m = p + 1 := ⟨m - 1, by omega⟩
      rw [hp, Nat.add_sub_cancel] at h7
      obtain ⟨k1, hk1⟩ : ∃ k, p * r = k := ⟨_, rfl⟩
      obtain ⟨k2, hk2⟩ : ∃ k, m * r = k := ⟨_, rfl⟩
      rw [hk1] at h7
      rw [hk2] at hm2 hmr
      have q1 : (m : Int) - 1 = (p : Int) := by omega
      have q2 : (p : Int) * (r : Int) = (k1 : Int) := by rw [← hk1]; simp
      have q3 : (m : Int) * (r : Int) = (k2 : Int) := by rw [← hk2]; simp
      have q4 : decide (k1 < n) = true := by simp; omega
      have q5 : decide (n ≤ k2) = true := by simp; omega
      clear hm3 hp hk1 hk2
      go_enter Try.func7, Try.ntmps7
      go_upto_region 4 with (fail)
      refine wp_world (RP w n) (rp_new w n) ?_
      intro w1 hR1
      clear HMK
      go_wp2_with (first
        | (go_at_call 9; refine (HPU.out _ hR1).mono ?_; rintro e w2 ⟨B, mB, cB, rfl, _, hb2⟩; have hR2 := hR1.step hb2)
        | (go_at_call 17; refine (HRM.out _).mono ?_; rintro e w' ⟨rfl, rfl⟩)
        | (go_at_call 10; refine (num_any _ _).mono ?_; rintro e w' ⟨rfl, rfl⟩)
        | (go_at_call 15; refine (HPA.out _ hR2).mono ?_; rintro e w3 ⟨A3, m3, c3, rfl, hm3, _, hb3⟩; obtain rfl : m = m3 := HCL.out.symm.trans hm3; have hR3 := hR2.step hb3; clear hm3)
        | (go_at_call 8; refine (live_from hR3.1).mono ?_; rintro e w4 ⟨rfl, hb4⟩))
      go_ret
      exact ⟨rfl, hb4⟩
  · have h4 : decide (n ≤ r) = false := by simp; omega
    have h0 : 0 < n := by omega
    have hn0 : ((n : Int) == 0) = false := by simp; omega
    obtain ⟨h7, h8⟩ := hm3 h0
    obtain ⟨p, hp⟩ : ∃ p, m = p + 1 := ⟨m - 1, by omega⟩
    rw [hp, Nat.add_sub_cancel] at h7
    obtain ⟨k1, hk1⟩ : ∃ k, p * r = k := ⟨_, rfl⟩
    obtain ⟨k2, hk2⟩ : ∃ k, m * r = k := ⟨_, rfl⟩
    rw [hk1] at h7
    rw [hk2] at hm2 hmr
    have q1 : (m : Int) - 1 = (p : Int) := by omega
    have q2 : (p : Int) * (r : Int) = (k1 : Int) := by rw [← hk1]; simp
    have q3 : (m : Int) * (r : Int) = (k2 : Int) := by rw [← hk2]; simp
    have q4 : decide (k1 < n) = true := by simp; omega
    have q5 : decide (n ≤ k2) = true := by simp; omega
    clear hm3 hp hk1 hk2
    go_enter Try.func7, Try.ntmps7
    go_upto_region 4 with (fail)
    refine wp_world (RP w n) (rp_new w n) ?_
    intro w1 hR1
    clear HMK
    go_wp2_with (first
      | (go_at_call 9; refine (HPU.out _ hR1).mono ?_; rintro e w2 ⟨B, mB, cB, rfl, _, hb2⟩; have hR2 := hR1.step hb2)
      | (go_at_call 17; refine (HRM.out _).mono ?_; rintro e w' ⟨rfl, rfl⟩)
      | (go_at_call 10; refine (num_any _ _).mono ?_; rintro e w' ⟨rfl, rfl⟩)
      | (go_at_call 15; refine (HPA.out _ hR2).mono ?_; rintro e w3 ⟨A3, m3, c3, rfl, hm3, _, hb3⟩; obtain rfl : m = m3 := HCL.out.symm.trans hm3; have hR3 := hR2.step hb3; clear hm3)
      | (go_at_call 8; refine (live_from hR3.1).mono ?_; rintro e w4 ⟨rfl, hb4⟩))
    go_ret
    exact ⟨rfl, hb4⟩

/-- SealRoom at every input. -/
theorem sealRoom_any (size n : Int) (w : World) : Calls Try.prog 7 #[.int .i64 size, .int .i64 n] w (Yes w) := by
  by_cases h : n < 0 ∨ 20000 < n
  · exact room_out size n w h
  · obtain ⟨k, rfl⟩ := Int.eq_ofNat_of_zero_le (show 0 ≤ n by omega)
    by_cases h2 : size < 64 ∨ 4096 < size
    · refine room_none size k w (by omega) ?_
      unfold room
      rcases h2 with h2 | h2
      · rw [if_pos h2]
      · rw [if_neg (by omega), if_pos h2]
    · have hr : room size = size - 15 := by unfold room; rw [if_neg (by omega), if_neg (by omega)]
      exact room_some size k (size - 15).toNat w (by omega) (by omega) (by omega) (by omega) (by omega)
end Go.Proofs.Ythdhinhedgcbcaa
