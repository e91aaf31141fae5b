/- The walk of slices.Clone at bytes. -/
import Derived.Test.YtefnjplfemgibaaProg
import Derived.Test.YtefnjplfemgibaaBase
import Derived.Deep.QuietTactic
import Derived.BigQuiet
namespace Go.Proofs.Ytefnjplfemgibaa
open Go.RowKit
set_option linter.unusedVariables false

theorem bytesT : ElT Try.prog 51 5 (.int .u8 0) 1 1 := ⟨Try.underlying51, by kernel_rfl, rfl, by omega⟩

set_option maxHeartbeats 400000 in
theorem clone_none (n c : Nat) (w : World) :
    Calls Try.prog 78 #[.slice none n c] w fun e w' => e = .returned (.slice none 0 0) ∧ w = w' := by
  have hq := fun w => Lib.run_eql_slice_nil (P := Try.prog) w 51 5 none n c 0 0 Try.underlying51
  go_enter Try.func78, Try.ntmps78
  go_wp2
  go_ret
  exact ⟨rfl, rfl⟩

set_option maxHeartbeats 400000 in
theorem clone_some (a : Addr) (l : List UInt8) (n c : Nat) (w : World) (hl : l.length = n) (hn : n ≤ 140737488351232) (h : Rd w (some a) l) :
    Calls Try.prog 78 #[.slice (some a) n c] w fun e w' => ∃ v, e = .returned v ∧ w'.ownsRow w.heap.size 5 1 v n (l.map bv) ∧ Below w.heap.size w w' := by
  have hq := fun w => Lib.run_eql_slice_nil (P := Try.prog) w 51 5 (some a) n c 0 0 Try.underlying51
  have HL := Lib.hid hl
  clear hl
  go_enter Try.func78, Try.ntmps78
  go_wp2_with (at_builtin; refine wpList_app bytesT rfl (.tmp 5) (.tmp 6) rfl w.heap.size _ 0 [] rfl (World.ownsRow_lit w #[] 0 (Nat.le_refl _) (Nat.zero_le _) rfl) (some a) n c (l.map bv) rfl ?_ (h.below (below_alloc _ _)).cs (bvs_one l) ?_ ?_ (by simp) ?_)
  · simp [HL.out]
  · simp only [maxLen]; omega
  · omega
  · intro v' w' hown hgr _
    go_wp2
    go_ret
    exact ⟨v', rfl, by simpa using hown, (below_alloc w _).grown hgr (by simp) (by simp [Value.ownBlock])⟩

/-- slices.Clone of bytes, whatever slice. -/
theorem clone_any (A : Option Addr) (l : List UInt8) (n c : Nat) (w : World) (hl : l.length = n) (hn : n ≤ 140737488351232) (h : Rd w A l) :
    Calls Try.prog 78 #[.slice A n c] w fun e w' => ∃ v, e = .returned v ∧ w'.ownsRow w.heap.size 5 1 v n (l.map bv) ∧ Below w.heap.size w w' := by
  rcases A with _ | a
  · have hz : l = [] := by
      rcases h with h | ⟨_, _, h, _⟩
      · exact h
      · cases h
    subst hz
    simp at hl
    subst hl
    exact (clone_none 0 c w).mono fun e w' ⟨he, hw⟩ => ⟨_, he, by subst hw; exact World.ownsRow_nil w _ _ _, by subst hw; exact Below.refl _ _⟩
  · exact clone_some a l n c w hl hn h

end Go.Proofs.Ytefnjplfemgibaa
