/- Links (layer 18): the law's pairs: both hold the same pairs. -/
import Derived.Test.YtpfikhamokjdjaaLrG
import Derived.Test.YtpfikhamokjdjaaLOrdL
namespace Go.Proofs.Ytpfikhamokjdjaa
open Go.RowKit
set_option linter.unusedVariables false
section
variable {w0 W : World} {pm b1 b2 n B pr cP cW : Nat} {AP AW : Option Addr} {L : PL} {K M : WL}
set_option maxRecDepth 100000 in
set_option maxHeartbeats 4000000 in
theorem lpairs_v (h : LK w0 W pm b1 b2 n L K) (hr : RK W B pr AP cP AW cW (psP L) M) (hl : L.length ≤ 400000) :
    Calls Try.prog 27 #[.pointer (some ⟨pm, 0, none⟩), .pointer (some ⟨pr, 0, none⟩)] W fun e w' => e = .returned (.bool true) ∧ Below W.heap.size W w' := by
  have HPA := Lib.hid (pairs_w h (by omega))
  obtain ⟨ps, hps⟩ : ∃ ps, psP L = ps := ⟨_, rfl⟩
  obtain ⟨m, hm⟩ : ∃ m, ps.length = m := ⟨_, rfl⟩
  have hmb : m ≤ 400000 := by rw [← hm, ← hps, (psP_perm L).length_eq]; exact hl
  rw [hps] at HPA hr
  have HRK := Lib.hid hr
  have HM := Lib.hid hm
  have HPA2 : Hid (Calls Try.prog 19 #[.pointer (some ⟨pm, 0, none⟩)] W fun e w' => ∃ B x, e = .returned (.slice B m x) ∧ w'.ownsRow W.heap.size 45 2 (.slice B m x) m (ps.flatMap encP) ∧ Below W.heap.size W w') := HPA.out.mono fun e w' h9 => by
    obtain ⟨v, rfl, h1, h2⟩ := h9
    rw [HM.out] at h1
    obtain ⟨B, x, rfl⟩ := own_slice9 h1
    exact ⟨B, x, rfl, h1, h2⟩
  clear h hr hl hps hm HPA
  go_enter Try.func27, Try.ntmps27
  go_upto_region 2 with (go_at_call 19; refine HPA2.out.mono ?_; rintro e U1 ⟨Aa, xa, rfl, hr1, hb1⟩; have HR1 := Lib.hid hr1; have HB1 := Lib.hid hb1; clear hr1 hb1)
  have HRK1 := Lib.hid (HRK.out.keep HB1.out)
  have m0 := HRK1.out.obj.cell 0
  rw [HM.out] at m0
  clear HPA2
  go_wp2
  clear m0
  go_loopw [6] (fun i wr => ∃ j : Nat, j ≤ m ∧ i = .int .i64 (j : Int) ∧ Below U1.heap.size U1 wr) (fun i _ => m + 1 - (intOf i).toNat)
  case atStart => exact ⟨0, Nat.zero_le _, rfl, Below.refl _ _⟩
  case round =>
    obtain ⟨j, hj, rfl, hbj⟩ := hrel
    have HBJ := Lib.hid hbj
    clear hbj
    by_cases hlt : j < m
    · have hlt' : decide (j < m) = true := by simpa using hlt
      have hjp : j < ps.length := by rw [HM.out]; exact hlt
      have hra := own_bel HR1.out HBJ.out
      have hrk := HRK1.out.keep HBJ.out
      have m0 := hrk.obj.cell 0
      rw [HM.out] at m0
      have hrb := hrk.p
      rw [HM.out] at hrb
      obtain ⟨ga, rfl, hca⟩ := own_at9 (g := 0) (c := xa) hra (by omega)
      obtain ⟨gb, rfl, hcb⟩ := own_at9 (g := 0) (c := cP) hrb (by omega)
      obtain ⟨z0, z1⟩ := cellP9 hra hjp HM.out
      obtain ⟨y0, y1⟩ := cell75 hrb hjp HM.out
      have hne := neqP_self ps[j]
      generalize ps[j] = p at z0 z1 y0 y1 hne
      obtain ⟨pa, pb⟩ := p
      simp only at z0 z1 y0 y1 hne
      have e1 : (pa != pa) = false := by simp
      have e2 : (pb != pb) = false := by simp
      have q1 : (0 : Int) ≤ (j : Int) := by omega
      have q2 : (j : Int) < (m : Int) := by omega
      clear hra hrb hrk hne hjp
      go_wp2
      go_quiet (fail)
      clear z0 z1 y0 y1 m0 e1 e2
      go_wp2
      go_roundw
      case rel => exact ⟨j + 1, hlt, by go_num, below_drewN HBJ.out _⟩
      case measure => simp [intOf]; omega
    · obtain rfl : m = j := by omega
      have hd3 : decide (m < m) = false := by simp
      go_wp2
      go_ret
      exact ⟨rfl, HB1.out.trans (HBJ.out.mono HB1.out.size)⟩
end
end Go.Proofs.Ytpfikhamokjdjaa
