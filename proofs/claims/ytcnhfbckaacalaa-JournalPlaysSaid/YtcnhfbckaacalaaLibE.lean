/- The walk of slices.Equal at bytes. -/
import Derived.Test.YtcnhfbckaacalaaLibA
namespace Go.Proofs.Ytcnhfbckaacalaa
open Go.RowKit
set_option linter.unusedVariables false

set_option maxHeartbeats 400000 in
/-- slices.Equal of bytes, whatever slices. -/
theorem equal_any (A B : Option Addr) (l m : List UInt8) (n c n' c' : Nat) (w : World) (hl : l.length = n) (hm : m.length = n') (hn : n ≤ 140737488351232) (hn' : n' ≤ 140737488351232) (h : Rd w A l) (h' : Rd w B m) :
    Calls Try.prog 81 #[.slice A n c, .slice B n' c'] w fun e w' => e = .returned (.bool (decide (l = m))) ∧ ∃ k, w' = w.drewN k := by
  have HL := Lib.hid hl
  have HM := Lib.hid hm
  clear hl hm
  by_cases hne : n = n'
  · obtain rfl := hne
    have hb : ((n : Int) != n) = false := by simp
    go_enter Try.func81, Try.ntmps81
    go_wp2
    go_loopw [13] (fun i wr => ∃ k : Nat, k ≤ n ∧ i = .int .i64 k ∧ l.take k = m.take k ∧ ∃ q, wr = w.drewN q) (fun i _ => n - (intOf i).toNat)
    case atStart => exact ⟨0, Nat.zero_le _, rfl, by simp, 0, rfl⟩
    case round =>
      obtain ⟨k, hk, rfl, hpre, q, rfl⟩ := hrel
      have HP := Lib.hid hpre
      clear hpre
      by_cases hlt : k < n
      · have hkl : k < l.length := by rw [HL.out]; exact hlt
        have hkm : k < m.length := by rw [HM.out]; exact hlt
        obtain ⟨b, off, rfl, _, hc⟩ := h.at_ hkl
        obtain ⟨b', off', rfl, _, hc'⟩ := h'.at_ hkm
        have Hl := Lib.hid (List.take_succ_eq_append_getElem hkl)
        have Hm := Lib.hid (List.take_succ_eq_append_getElem hkm)
        by_cases hce : l[k] = m[k]
        · have HE := Lib.hid hce
          have hbb : (((l[k].toNat : Nat) : Int) != ((m[k].toNat : Nat) : Int)) = false := by simp [hce]
          clear hce
          generalize ((l[k].toNat : Nat) : Int) = x at *
          generalize ((m[k].toNat : Nat) : Int) = y at *
          go_wp2
          go_quiet (fail)
          go_wp2
          go_roundw
          case rel => exact ⟨k + 1, by omega, by go_num, by rw [Hl.out, Hm.out, HP.out, HE.out], _, rfl⟩
          case measure => simp [intOf]; omega
        · have HE := Lib.hid hce
          have hbb : (((l[k].toNat : Nat) : Int) != ((m[k].toNat : Nat) : Int)) = true := by
            have : l[k].toNat ≠ m[k].toNat := fun e => hce (UInt8.toNat_inj.1 e)
            rw [bne_iff_ne]; omega
          have HF := Lib.hid (show decide (l = m) = false by
            rw [decide_eq_false_iff_not]; intro e; subst e; exact hce rfl)
          clear hce
          generalize ((l[k].toNat : Nat) : Int) = x at *
          generalize ((m[k].toNat : Nat) : Int) = y at *
          go_wp2
          go_quiet (fail)
          go_wp2
          go_ret
          exact ⟨by rw [HF.out]; rfl, _, World.drewN_drewN _ _ _⟩
      · have HF := Lib.hid (show decide (l = m) = true by
          rw [decide_eq_true_eq]
          have h1 := HP.out
          rw [List.take_of_length_le (by rw [HL.out]; omega), List.take_of_length_le (by rw [HM.out]; omega)] at h1
          exact h1)
        go_wp2
        go_ret
        exact ⟨by rw [HF.out]; rfl, _, rfl⟩
  · have hb : ((n : Int) != n') = true := by rw [bne_iff_ne]; omega
    have HF := Lib.hid (show decide (l = m) = false by
      rw [decide_eq_false_iff_not]; intro e; subst e; exact hne (HL.out.symm.trans HM.out))
    clear hne
    go_enter Try.func81, Try.ntmps81
    go_wp2
    go_ret
    exact ⟨by rw [HF.out]; rfl, 0, rfl⟩
end Go.Proofs.Ytcnhfbckaacalaa
