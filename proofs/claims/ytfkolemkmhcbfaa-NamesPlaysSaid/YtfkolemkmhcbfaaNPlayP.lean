/- PROVED: for every input the call of emberslaw19.NamesPlays returns true, and each argument reads afterwards as it read before. No condition. -/
import Derived.Test.YtfkolemkmhcbfaaRows
import Derived.Test.YtfkolemkmhcbfaaNPlayW
import Derived.Test.YtfkolemkmhcbfaaNaO
namespace Go.Proofs.Ytfkolemkmhcbfaa
open Go.ChangeShapes Go.WideShapes Go.ChangeAt Go.RowKit Go.Joins
set_option linter.unusedVariables false

namespace NamesPlays
theorem own : ownKnob Try.prog.godebug = none := by kernel_rfl
theorem laidOut : laidOutB Try.prog = true := by kernel_rfl

set_option maxRecDepth 100000 in
theorem lifted (os : Os) (started : os.Started) (H : Type) (enc : TypeId × Value → H) :
    ReturnsInHanded {} Try.checked os 3 .any (Rows.namesPlaysSpec.pre6 enc Try.prog Try.f3 Rows.namesPlaysRow.domain false) (Rows.namesPlaysSpec.post enc Try.prog Try.f3 false true false false) := by
  refine returnsInHanded_of_change_sized (C := Try.checked) own started (by kernel_rfl) Try.func3
    (ChangeSpec.witness6 (enc := enc) (C := Try.checked) false ⟨#[], #[.slice none 0 0, .slice none 0 0], []⟩ 8 (by kernel_rfl) (by kernel_rfl) (by kernel_rfl) (by kernel_rfl)) ?_
  intro W base args ds gs before hval0 hW hcnd hsz0 _
  have hsz : (DataW.weightsEach Try.prog (Try.f3.params.toList ++ Rows.namesPlaysSpec.plain.varTypes Try.prog) (ds ++ gs)).all (· ≤ reachBytes) = true := hsz0
  have hval : ∀ (j : Nat) t v, Try.f3.params[j]? = some t → args[j]? = some v → Value.okWide Try.prog W .any base t v := hval0
  have hW' := hW
  obtain ⟨p, q, hA0, hV, rfl, hfz, hnd⟩ := hW
  have hA : DataW.TrodAll enc Try.prog W 0 (fun _ => true) true Try.f3.params.toList args.toList ds p := hA0
  rw [Try.params3] at hA hval hsz
  obtain ⟨v0, vs0, d0, ds0, p0, q0, hargs, rfl, rfl, h0, r0⟩ := trodAll_cons hA
  obtain ⟨v1, vs1, d1, ds1, p1, q1, rfl, rfl, rfl, h1, r1⟩ := trodAll_cons r0
  obtain ⟨rfl, rfl, rfl⟩ := trodAll_nil r1
  obtain rfl : args = #[v0, v1] := by cases args; simp_all
  obtain ⟨rfl, rfl⟩ := trodVars_none hV
  have k0 := h0
  have lt0 : ∀ x ∈ p0, x.block < W.heap.size := by obtain ⟨m, hm⟩ := k0; exact DataW.trod_lt m _ _ _ hm
  have wt0 := wt_arg hsz (j := 0) rfl rfl
  obtain ⟨A0, len0, cap0, rfl⟩ := okWide_slice Try.underlying22 (hval 0 22 v0 rfl rfl)
  obtain ⟨l0, hl0, hnc0, hc0, hr0, ho0⟩ : ∃ l : List ActN, l.length = len0 ∧ len0 ≤ cap0 ∧ cap0 ≤ 9223372036854775807 ∧ RdNA W A0 l ∧ ∀ a ∈ l, a.Ok := by
    obtain ⟨fuel, hf⟩ := h0
    obtain ⟨A, n, c, l, e, h1, h2, h3, h4, h5⟩ := open_nacts (v := .slice A0 len0 cap0) Try.underlying22 Try.underlying31 (by kernel_rfl) (by kernel_rfl) Try.underlying3 Try.underlying9 Try.underlying2 (by simpa [Value.cells] using hf) wt0
    injection e with e1 e2 e3
    subst e1 e2 e3
    exact ⟨l, h1, h2, h3, h4, h5⟩
  have k1 := h1
  have lt1 : ∀ x ∈ p1, x.block < W.heap.size := by obtain ⟨m, hm⟩ := k1; exact DataW.trod_lt m _ _ _ hm
  have wt1 := wt_arg hsz (j := 1) rfl rfl
  obtain ⟨A1, len1, cap1, rfl⟩ := okWide_slice Try.underlying22 (hval 1 22 v1 rfl rfl)
  obtain ⟨l1, hl1, hnc1, hc1, hr1, ho1⟩ : ∃ l : List ActN, l.length = len1 ∧ len1 ≤ cap1 ∧ cap1 ≤ 9223372036854775807 ∧ RdNA W A1 l ∧ ∀ a ∈ l, a.Ok := by
    obtain ⟨fuel, hf⟩ := h1
    obtain ⟨A, n, c, l, e, h1, h2, h3, h4, h5⟩ := open_nacts (v := .slice A1 len1 cap1) Try.underlying22 Try.underlying31 (by kernel_rfl) (by kernel_rfl) Try.underlying3 Try.underlying9 Try.underlying2 (by simpa [Value.cells] using hf) wt1
    injection e with e1 e2 e3
    subst e1 e2 e3
    exact ⟨l, h1, h2, h3, h4, h5⟩
  clear hA0 hval0
  refine ((namesPlays_any A0 A1 l0 l1 len0 len1 cap0 cap1 W hl0 (by omega) hr0 ho0 hl1 (by omega) hr1 ho1)).mono fun e W' ⟨he, bel⟩ => ?_
  subst he
  exact ⟨_, rfl, _, _, _, [], _, [], hW', trodAll_mk1 (shut_bool Try.underlying4 _), (trodAll_cons_mk (Below.trod laidOut (by kernel_rfl) (of_decide_eq_true (by kernel_rfl)) k0 bel lt0) (trodAll_cons_mk (Below.trod laidOut (by kernel_rfl) (of_decide_eq_true (by kernel_rfl)) k1 bel lt1) trodAll_mk0)), rfl, bel.frame _, fun h => by cases h⟩

theorem over : Rows.namesPlaysRow.holds Try.pinned (OpenSpec.ofChange Rows.namesPlaysSpec) :=
  OpenClaim.holds_of_wide 3 Try.f3 rfl rfl rfl rfl rfl rfl rfl ⟨rfl, rfl, rfl, rfl, rfl⟩ rfl rfl rfl rfl rfl (by kernel_rfl) Try.func3 (by kernel_rfl)
    (of_decide_eq_true (by kernel_rfl)) (by unfold Func.isWrapper; first | (rw [if_pos (by decide +kernel)]; kernel_rfl) | (rw [if_neg (by decide +kernel)]; exact ⟨rfl, rfl⟩))
    (fun os started H enc _ => lifted os started H enc)

/-- THE STATEMENT. -/
theorem proved : Rows.NamesPlaysSaid := over
#print axioms proved
end NamesPlays
end Go.Proofs.Ytfkolemkmhcbfaa
