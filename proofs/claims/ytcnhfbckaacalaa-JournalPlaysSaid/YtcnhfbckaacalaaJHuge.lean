/- The walk of huge of the statements of layer 6. -/
import Derived.Test.YtcnhfbckaacalaaLibB
import Derived.Test.YtcnhfbckaacalaaOpenS
namespace Go.Proofs.Ytcnhfbckaacalaa
open Go.RowKit
set_option linter.unusedVariables false

/-- How many bytes the first k acts bear. -/
def sumP (l : List ActV) (k : Nat) : Nat := ((l.take k).map (fun a => a.p.length)).sum
theorem sumP_succ (l : List ActV) (k : Nat) (h : k < l.length) : sumP l (k + 1) = sumP l k + l[k].p.length := by
  unfold sumP
  rw [List.take_succ_eq_append_getElem h, List.map_append, List.sum_append]
  simp
theorem sumP_le (l : List ActV) (k : Nat) (h : ∀ a ∈ l, a.Ok) : sumP l k ≤ k * 140737488351232 := by
  induction k with
  | zero => simp [sumP]
  | succ k ih =>
    by_cases hk : k < l.length
    · rw [sumP_succ l k hk]
      have := (h _ (List.getElem_mem hk)).p2
      omega
    · have : sumP l (k + 1) = sumP l k := by
        unfold sumP
        rw [List.take_of_length_le (by omega), List.take_of_length_le (by omega)]
      omega
theorem le_sum_of {x : Nat} : ∀ l : List Nat, x ∈ l → x ≤ l.sum
  | y :: r, h => by
    rw [List.sum_cons]
    rcases List.mem_cons.1 h with rfl | h
    · omega
    · have := le_sum_of r h; omega
theorem sumP_mono (l : List ActV) (k : Nat) (h : k < l.length) : l[k].p.length ≤ sumP l l.length := by
  unfold sumP
  rw [List.take_length]
  exact le_sum_of _ (List.mem_map.2 ⟨l[k], List.getElem_mem h, rfl⟩)
def hugeB (l : List ActV) : Bool := decide (120 < l.length ∨ 20000 < sumP l l.length)

set_option maxHeartbeats 200000 in
theorem huge_any (A : Option Addr) (l : List ActV) (n c : Nat) (w : World) (hl : l.length = n) (hn : n ≤ 9223372036854775807) (hr : RdA w A l) (ho : ∀ a ∈ l, a.Ok) :
    Calls Try.prog 22 #[.slice A n c] w fun e w' => e = .returned (.bool (hugeB l)) ∧ w = w' := by
  have HL := Lib.hid hl
  have HO := Lib.hid ho
  clear hl ho
  go_enter Try.func22, Try.ntmps22
  go_wp2
  go_loop [3, 4] (fun s i => ∃ k : Nat, k ≤ n ∧ k ≤ 121 ∧ i = .int .i64 k ∧ s = .int .i64 (sumP l k)) (fun _ i => 121 - (intOf i).toNat)
  case atStart => exact ⟨0, Nat.zero_le _, by omega, rfl, rfl⟩
  case round =>
    obtain ⟨k, hk, hk2, rfl, rfl⟩ := hrel
    have hs1 := sumP_le l k HO.out
    by_cases hlt : k < n ∧ k ≤ 120
    · obtain ⟨hlt1, hlt2⟩ := hlt
      have hd1 : decide ((k : Int) < n) = true := by simp; omega
      have hkl : k < l.length := by rw [HL.out]; exact hlt1
      obtain ⟨b, off, rfl, B, cB, c0, c1, c2, _, _⟩ := hr.at_ hkl
      have hp2 := (HO.out _ (List.getElem_mem hkl)).p2
      have HS := Lib.hid (sumP_succ l k hkl)
      generalize (l[k]'hkl).p.length = x at *
      generalize sumP l k = sk at *
      go_wp2
      go_round
      case rel => exact ⟨k + 1, by omega, by omega, by go_num, by rw [HS.out]; go_num⟩
      case measure => simp [intOf]; omega
    · by_cases h120 : 120 < n
      · have HF := Lib.hid (show hugeB l = true by unfold hugeB; rw [HL.out]; simp [h120])
        have hex : (decide (k < n) = true ∧ decide ((k : Int) ≤ 120) = false) ∨ decide (k < n) = false := by
          by_cases h1 : k < n
          · exact .inl ⟨by simp; omega, by simp; omega⟩
          · exact .inr (by simp; omega)
        have hd3 : decide (120 < (n : Int)) = true := by simp; omega
        clear hlt
        rcases hex with ⟨hd1, hd2⟩ | hd1
        all_goals
          go_wp2
          go_ret
          exact ⟨by rw [HF.out]; rfl, rfl⟩
      · obtain rfl : k = n := by omega
        have HF := Lib.hid (show hugeB l = decide (20000 < (sumP l k : Int)) by
          unfold hugeB; rw [HL.out]; rw [decide_eq_decide]; omega)
        have hd1 : decide ((k : Int) < k) = false := by simp
        have hd3 : decide (120 < (k : Int)) = false := by simp; omega
        clear hlt
        generalize sumP l k = sk at *
        go_wp2
        go_ret
        exact ⟨by rw [HF.out]; rfl, rfl⟩
end Go.Proofs.Ytcnhfbckaacalaa
