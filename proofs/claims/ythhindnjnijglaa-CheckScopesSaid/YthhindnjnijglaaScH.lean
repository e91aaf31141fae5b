/- Layer 10: Scan, whatever the text. Layer 11: the walk of begin: a parser over a text's tokens. -/
import Derived.Test.YthhindnjnijglaaScF
namespace Go.Proofs.Ythhindnjnijglaa
section
open Go.RowKit
set_option linter.unusedVariables false

set_option maxRecDepth 100000 in
set_option maxHeartbeats 2000000 in
theorem scan_any (W : World) (s : List UInt8) : Calls Try.prog 18 #[.string ⟨s.toArray⟩] W (ScEnd W (scanP s)) := by
  by_cases h : s.length ≤ 16384
  · exact scn_in W s rfl h
  have HR := Lib.hid (show scanP s = ⟨[], 1, 0⟩ by unfold scanP; rw [if_pos (by omega)])
  have dl : decide ((16384 : Int) < (s.length : Int)) = true := by simp; omega
  clear h
  go_enter Try.func18, Try.ntmps18
  go_wp2
  exact bodyPost_ret (v := .tuple #[.slice none 0 0, .int .i64 1, .int .i64 0]) (by simp [results, Try.results18, go_sem]) rfl (sc_err HR.out rfl (Below.refl _ _))
end
section
open Go.RowKit
set_option linter.unusedVariables false

set_option maxRecDepth 100000 in
set_option maxHeartbeats 1000000 in
theorem begin_any (W : World) (s : List UInt8) : Calls Try.prog 9 #[.string ⟨s.toArray⟩] W fun e w' => ∃ pb A c, e = .returned (.pointer (some ⟨pb, 0, none⟩)) ∧ W.heap.size ≤ pb ∧ PAt pb A c (scanP s).toks s.length ⟨0, (scanP s).e, ((scanP s).at_ : Nat)⟩ w' ∧ Below W.heap.size W w' := by
  have HSC := Lib.hid (scan_any W s)
  have HLN := Lib.hid (scanP_len s)
  obtain ⟨r, hr⟩ : ∃ r, scanP s = r := ⟨_, rfl⟩
  rw [hr] at HSC HLN ⊢
  clear hr
  go_enter Try.func9, Try.ntmps9
  go_wp2_with (go_at_call 18; refine HSC.out.mono ?_; rintro e V ⟨A, c, rfl, hrd, hlt, hb⟩)
  go_ret
  refine ⟨V.heap.size, A, c, rfl, hb.size, ⟨Blk.new _ _ _, hrd.fr (Fr.alloc (fun _ => False) _ _) (fun _ _ _ => id), hlt, Nat.zero_le _, HLN.out⟩, below_step hb (below_alloc _ _)⟩
end
end Go.Proofs.Ythhindnjnijglaa
