/- The walk of texts of the statements of layer 1. -/
import Derived.Test.YtdmehbejfigaiaaLays
import Derived.Test.YtdmehbejfigaiaaSpLive
namespace Go.Proofs.Ytdmehbejfigaiaa
open Go.RowKit
set_option linter.unusedVariables false

def textsB (l : List (List UInt8)) : Bool := decide (l.length ≤ 60 ∧ textSum l ≤ 20000)
theorem textSum_succ (ss : List (List UInt8)) (k : Nat) (h : k < ss.length) : textSum (ss.take (k + 1)) = textSum (ss.take k) + ss[k].length := by
  unfold textSum
  rw [List.take_succ_eq_append_getElem h, List.map_append, List.sum_append]
  simp
theorem textSum_le (l : List (List UInt8)) (k : Nat) (h : ∀ s ∈ l, s.length ≤ 140737488351232) : textSum (l.take k) ≤ k * 140737488351232 := by
  induction k with
  | zero => simp [textSum]
  | succ k ih =>
    by_cases hk : k < l.length
    · rw [textSum_succ l k hk]
      have := h _ (List.getElem_mem hk)
      omega
    · have : textSum (l.take (k + 1)) = textSum (l.take k) := by
        rw [List.take_of_length_le (by omega), List.take_of_length_le (by omega)]
      omega

set_option maxHeartbeats 400000 in
theorem texts_any (A : Option Addr) (l : List (List UInt8)) (n c : Nat) (w : World) (hl : l.length = n) (hn : n ≤ 9223372036854775807) (hr : RdT w A l) (ho : ∀ s ∈ l, s.length ≤ 140737488351232) :
    Calls Try.prog 20 #[.slice A n c] w fun e w' => e = .returned (.bool (textsB l)) ∧ w = w' := by
  have HL := Lib.hid hl
  have HO := Lib.hid ho
  clear hl ho
  go_enter Try.func20, Try.ntmps20
  go_wp2
  go_loop [3, 4] (fun s i => ∃ k : Nat, k ≤ n ∧ k ≤ 61 ∧ i = .int .i64 k ∧ s = .int .i64 (textSum (l.take k))) (fun _ i => 61 - (intOf i).toNat)
  case atStart => exact ⟨0, Nat.zero_le _, by omega, rfl, rfl⟩
  case round =>
    obtain ⟨k, hk, hk2, rfl, rfl⟩ := hrel
    have hs1 := textSum_le l k HO.out
    by_cases hlt : k < n ∧ k ≤ 60
    · obtain ⟨hlt1, hlt2⟩ := hlt
      have hd1 : decide ((k : Int) < n) = true := by simp; omega
      have hkl : k < l.length := by rw [HL.out]; exact hlt1
      obtain ⟨b, off, rfl, c0⟩ := hr.at_ hkl
      have hp2 := HO.out _ (List.getElem_mem hkl)
      have HS := Lib.hid (textSum_succ l k hkl)
      generalize textSum (l.take k) = sk at *
      generalize (l[k]'hkl) = x at *
      have hsz : (ByteArray.mk x.toArray).size = x.length := by simp [ByteArray.size]
      obtain ⟨y, hy⟩ : ∃ y : ByteArray, y = ⟨x.toArray⟩ := ⟨_, rfl⟩
      rw [← hy] at c0 hsz
      clear hy
      have hsz2 : y.size ≤ 140737488351232 := by omega
      have HZ := Lib.hid hsz
      clear hsz
      go_wp2
      go_round
      case rel => exact ⟨k + 1, by omega, by omega, by go_num, by rw [HS.out, ← HZ.out]; go_num⟩
      case measure => simp [intOf]; omega
    · by_cases h60 : 60 < n
      · have HF := Lib.hid (show textsB l = false by unfold textsB; rw [HL.out]; simp; omega)
        have hex : (decide (k < n) = true ∧ decide ((k : Int) ≤ 60) = false) ∨ decide (k < n) = false := by
          by_cases h1 : k < n
          · exact .inl ⟨by simp; omega, by simp; omega⟩
          · exact .inr (by simp; omega)
        have hd3 : decide ((n : Int) ≤ 60) = false := by simp; omega
        clear hlt
        rcases hex with ⟨hd1, hd2⟩ | hd1
        all_goals
          go_wp2
          go_ret
          exact ⟨by rw [HF.out]; rfl, rfl⟩
      · obtain rfl : k = n := by omega
        have HF := Lib.hid (show textsB l = decide ((textSum (l.take k) : Int) ≤ 20000) by
          unfold textsB; rw [HL.out, List.take_of_length_le (by rw [HL.out]; exact Nat.le_refl _)]; rw [decide_eq_decide]; omega)
        have hd1 : decide ((k : Int) < k) = false := by simp
        have hd3 : decide ((k : Int) ≤ 60) = true := by simp; omega
        clear hlt
        generalize textSum (l.take k) = sk at *
        go_wp2
        go_ret
        exact ⟨by rw [HF.out]; rfl, rfl⟩
end Go.Proofs.Ytdmehbejfigaiaa
