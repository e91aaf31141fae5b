/- The walk of Dead of layer 2: a select of one case with a default. -/
import Derived.Test.YtcnhfbckaacalaaProg
import Derived.Test.YtcnhfbckaacalaaBase
import Derived.Conc.LoneSelect
import Derived.KernelRfl
namespace Go.Proofs.Ytcnhfbckaacalaa
open Go.Conc Go.RowKit
set_option linter.unusedVariables false

set_option maxHeartbeats 400000 in
theorem dead_nil (w : World) : Calls Try.prog 39 #[.pointer none] w fun e w' => e = .returned (.bool false) ∧ w = w' := by
  go_enter Try.func39, Try.ntmps39
  go_wp2
  go_ret
  exact ⟨rfl, rfl⟩

set_option maxRecDepth 100000 in
set_option maxHeartbeats 400000 in
theorem dead_live (pd ch : Nat) (s r : Nat) (w : World) (hcell : w.cell? ⟨pd, 4, none⟩ = some (.chan (some ch))) (hch : w.heap[ch]? = some (.chan 0 #[] false s r false)) :
    Calls Try.prog 39 #[.pointer (some ⟨pd, 0, none⟩)] w fun e w' => e = .returned (.bool false) ∧ w = w' := by
  refine calls_of_loneTo (fun cs => ?_) (by rintro _ ⟨h, _⟩; cases h)
  have e : Frame.enter Try.prog 39 #[.pointer (some ⟨pd, 0, none⟩)] .normal = (base 39).at ⟨#[.pointer (some ⟨pd, 0, none⟩), undef, undef, undef, undef, undef, undef, undef, undef, undef, undef, undef], []⟩ [.code (Try.f39.body.getD .skip)] := by
    simp [Frame.enter, Frame.at, Try.func39, base, Try.f39]
  rw [e]
  refine LoneTo.goes (n := 21) ?_
  simp only [Try.f39, Option.getD_some]
  s_c stepG_seq
  s_reg
  s_op
  s_c stepG_region_end
  s_c stepG_seq
  s_c stepG_seq
  s_reg
  s_op
  s_op
  s_c stepG_region_end
  s_cond false
  s_c stepG_skip
  s_c stepG_seq
  s_reg
  s_op
  s_op
  s_op
  s_op
  s_c stepG_region_end
  s_c stepG_seq
  s_reg
  s_stop
  refine LoneTo.step (step_lone_select_default (c := ch) (z := .agg #[]) (cap := 0) (s := s) (r := r) (tm := false) (stepG_comm (cases := #[rcase ch (.agg #[])]) (blocking := false) (shape := .select) (w' := w) rfl rfl (by decide) (by simp [go_sem, execOp, rcase, Act.eval])) hch) ?_
  rw [Frame.finish_at]
  walk_nrm
  refine LoneTo.goes (n := 10) ?_
  s_op
  s_op
  s_c stepG_region_end
  s_c stepG_block
  s_cond false
  s_c stepG_seq
  s_reg
  s_op
  s_c stepG_region_end
  s_c stepG_ret'
  s_stop
  exact LoneTo.done ⟨.returned (.bool false), _, rfl, ⟨rfl, rfl⟩, rfl, rfl, rfl, rfl, _, Try.func39, by simp [results, Try.f39, Frame.at]⟩

set_option maxRecDepth 100000 in
set_option maxHeartbeats 400000 in
theorem dead_off (pd ch : Nat) (s r : Nat) (w : World) (hcell : w.cell? ⟨pd, 4, none⟩ = some (.chan (some ch))) (hch : w.heap[ch]? = some (.chan 0 #[] true s r false)) :
    Calls Try.prog 39 #[.pointer (some ⟨pd, 0, none⟩)] w fun e w' => e = .returned (.bool true) ∧ w = w' := by
  refine calls_of_loneTo (fun cs => ?_) (by rintro _ ⟨h, _⟩; cases h)
  have e : Frame.enter Try.prog 39 #[.pointer (some ⟨pd, 0, none⟩)] .normal = (base 39).at ⟨#[.pointer (some ⟨pd, 0, none⟩), undef, undef, undef, undef, undef, undef, undef, undef, undef, undef, undef], []⟩ [.code (Try.f39.body.getD .skip)] := by
    simp [Frame.enter, Frame.at, Try.func39, base, Try.f39]
  rw [e]
  refine LoneTo.goes (n := 21) ?_
  simp only [Try.f39, Option.getD_some]
  s_c stepG_seq
  s_reg
  s_op
  s_c stepG_region_end
  s_c stepG_seq
  s_c stepG_seq
  s_reg
  s_op
  s_op
  s_c stepG_region_end
  s_cond false
  s_c stepG_skip
  s_c stepG_seq
  s_reg
  s_op
  s_op
  s_op
  s_op
  s_c stepG_region_end
  s_c stepG_seq
  s_reg
  s_stop
  refine LoneTo.step (step_lone_select_recv_shut (c := ch) (z := .agg #[]) (cap := 0) (s := s) (r := r) (tm := false) (stepG_comm (cases := #[rcase ch (.agg #[])]) (blocking := false) (shape := .select) (w' := w) rfl rfl (by decide) (by simp [go_sem, execOp, rcase, Act.eval])) hch) ?_
  rw [Frame.finish_at]
  walk_nrm
  refine LoneTo.goes (n := 10) ?_
  s_op
  s_op
  s_c stepG_region_end
  s_c stepG_block
  s_cond true
  s_c stepG_seq
  s_reg
  s_op
  s_c stepG_region_end
  s_c stepG_ret'
  s_stop
  exact LoneTo.done ⟨.returned (.bool true), _, rfl, ⟨rfl, rfl⟩, rfl, rfl, rfl, rfl, _, Try.func39, by simp [results, Try.f39, Frame.at]⟩

end Go.Proofs.Ytcnhfbckaacalaa
