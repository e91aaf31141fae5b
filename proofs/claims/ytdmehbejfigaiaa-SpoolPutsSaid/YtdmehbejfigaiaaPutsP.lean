/- PROVED: for every input the call of emberslaw01.SpoolPuts returns true, and each argument reads afterwards as it read before. No condition. -/
import Derived.Test.YtdmehbejfigaiaaRows
import Derived.Test.YtdmehbejfigaiaaPutsW
import Derived.Test.YtdmehbejfigaiaaOpenL
namespace Go.Proofs.Ytdmehbejfigaiaa
open Go.ChangeShapes Go.WideShapes Go.ChangeAt Go.RowKit Go.Joins
set_option linter.unusedVariables false

namespace SpoolPuts
theorem own : ownKnob Try.prog.godebug = none := by kernel_rfl
theorem laidOut : laidOutB Try.prog = true := by kernel_rfl

set_option maxRecDepth 100000 in
theorem lifted (os : Os) (started : os.Started) (H : Type) (enc : TypeId × Value → H) :
    ReturnsInHanded {} Try.checked os 5 .any (Rows.spoolPutsSpec.pre6 enc Try.prog Try.f5 Rows.spoolPutsRow.domain false) (Rows.spoolPutsSpec.post enc Try.prog Try.f5 false true false false) := by
  refine returnsInHanded_of_change_sized (C := Try.checked) own started (by kernel_rfl) Try.func5
    (ChangeSpec.witness6 (enc := enc) (C := Try.checked) false ⟨#[], #[.slice none 0 0, .slice none 0 0, .slice none 0 0, .slice none 0 0], []⟩ 8 (by kernel_rfl) (by kernel_rfl) (by kernel_rfl) (by kernel_rfl)) ?_
  intro W base args ds gs before hval0 hW hcnd hsz0 _
  have hsz : (DataW.weightsEach Try.prog (Try.f5.params.toList ++ Rows.spoolPutsSpec.plain.varTypes Try.prog) (ds ++ gs)).all (· ≤ reachBytes) = true := hsz0
  have hval : ∀ (j : Nat) t v, Try.f5.params[j]? = some t → args[j]? = some v → Value.okWide Try.prog W .any base t v := hval0
  have hW' := hW
  obtain ⟨p, q, hA0, hV, rfl, hfz, hnd⟩ := hW
  have hA : DataW.TrodAll enc Try.prog W 0 (fun _ => true) true Try.f5.params.toList args.toList ds p := hA0
  rw [Try.params5] at hA hval hsz
  obtain ⟨v0, vs0, d0, ds0, p0, q0, hargs, rfl, rfl, h0, r0⟩ := trodAll_cons hA
  obtain ⟨v1, vs1, d1, ds1, p1, q1, rfl, rfl, rfl, h1, r1⟩ := trodAll_cons r0
  obtain ⟨v2, vs2, d2, ds2, p2, q2, rfl, rfl, rfl, h2, r2⟩ := trodAll_cons r1
  obtain ⟨v3, vs3, d3, ds3, p3, q3, rfl, rfl, rfl, h3, r3⟩ := trodAll_cons r2
  obtain ⟨rfl, rfl, rfl⟩ := trodAll_nil r3
  obtain rfl : args = #[v0, v1, v2, v3] := by cases args; simp_all
  obtain ⟨rfl, rfl⟩ := trodVars_none hV
  have k0 := h0
  have lt0 : ∀ x ∈ p0, x.block < W.heap.size := by obtain ⟨m, hm⟩ := k0; exact DataW.trod_lt m _ _ _ hm
  obtain ⟨A0, len0, cap0, rfl⟩ := okWide_slice Try.underlying22 (hval 0 22 v0 rfl rfl)
  obtain ⟨l0, hl0, hnc0, hc0, hr0⟩ : ∃ l : List UInt8, l.length = len0 ∧ len0 ≤ cap0 ∧ cap0 ≤ 9223372036854775807 ∧ Rd W A0 l := by
    obtain ⟨fuel, hf⟩ := h0
    obtain ⟨A, n, c, l, e, h1, h2, h3, h4⟩ := open_bytes (v := .slice A0 len0 cap0) Try.underlying22 Try.underlying5 (by kernel_rfl) (by simpa [Value.cells] using hf)
    injection e with e1 e2 e3
    subst e1 e2 e3
    exact ⟨l, h1, h2, h3, h4⟩
  have k1 := h1
  have lt1 : ∀ x ∈ p1, x.block < W.heap.size := by obtain ⟨m, hm⟩ := k1; exact DataW.trod_lt m _ _ _ hm
  obtain ⟨A1, len1, cap1, rfl⟩ := okWide_slice Try.underlying40 (hval 1 40 v1 rfl rfl)
  obtain ⟨l1, hl1, hnc1, hc1, hr1, ho1⟩ : ∃ l : List Nat, l.length = len1 ∧ len1 ≤ cap1 ∧ cap1 ≤ 9223372036854775807 ∧ RdK .u64 W A1 (l.map (fun (x : Nat) => (x : Int))) ∧ ∀ z ∈ l, z < 18446744073709551616 := by
    obtain ⟨fuel, hf⟩ := h1
    obtain ⟨A, n, c, l, e, h1, h2, h3, h4, h5⟩ := open_nats (v := .slice A1 len1 cap1) Try.underlying40 Try.underlying23 (by kernel_rfl) (by simpa [Value.cells] using hf)
    injection e with e1 e2 e3
    subst e1 e2 e3
    exact ⟨l, h1, h2, h3, h4, h5⟩
  have k2 := h2
  have lt2 : ∀ x ∈ p2, x.block < W.heap.size := by obtain ⟨m, hm⟩ := k2; exact DataW.trod_lt m _ _ _ hm
  obtain ⟨A2, len2, cap2, rfl⟩ := okWide_slice Try.underlying41 (hval 2 41 v2 rfl rfl)
  obtain ⟨l2, hl2, hnc2, hc2, hr2, ho2⟩ : ∃ l : List Int, l.length = len2 ∧ len2 ≤ cap2 ∧ cap2 ≤ 9223372036854775807 ∧ RdK .i64 W A2 l ∧ ∀ z ∈ l, -9223372036854775808 ≤ z ∧ z ≤ 9223372036854775807 := by
    obtain ⟨fuel, hf⟩ := h2
    obtain ⟨A, n, c, l, e, h1, h2, h3, h4, h5⟩ := open_i64s (v := .slice A2 len2 cap2) Try.underlying41 Try.underlying2 (by kernel_rfl) (by simpa [Value.cells] using hf)
    injection e with e1 e2 e3
    subst e1 e2 e3
    exact ⟨l, h1, h2, h3, h4, h5⟩
  have k3 := h3
  have lt3 : ∀ x ∈ p3, x.block < W.heap.size := by obtain ⟨m, hm⟩ := k3; exact DataW.trod_lt m _ _ _ hm
  have wt3 := wt_arg hsz (j := 3) rfl rfl
  obtain ⟨A3, len3, cap3, rfl⟩ := okWide_slice Try.underlying42 (hval 3 42 v3 rfl rfl)
  obtain ⟨l3, hl3, hnc3, hc3, hr3, ho3⟩ : ∃ l : List (List UInt8), l.length = len3 ∧ len3 ≤ cap3 ∧ cap3 ≤ 9223372036854775807 ∧ RdT W A3 l ∧ ∀ s ∈ l, s.length ≤ 140737488351232 := by
    obtain ⟨fuel, hf⟩ := h3
    obtain ⟨A, n, c, l, e, h1, h2, h3, h4, h5⟩ := open_rdt (v := .slice A3 len3 cap3) Try.underlying42 Try.underlying9 (by kernel_rfl) (by simpa [Value.cells] using hf) wt3
    injection e with e1 e2 e3
    subst e1 e2 e3
    exact ⟨l, h1, h2, h3, h4, h5⟩
  clear hA0 hval0
  refine (puts_any A0 A1 A2 A3 len0 cap0 len1 cap1 len2 cap2 len3 cap3 l0 l1 l2 l3 W hl0 hr0 (by omega) hl1 hl2 hl3 hr1 hr2 hr3 ho1 ho2 (by omega) (by omega) (by omega) ho3).mono fun e W' ⟨he, bel⟩ => ?_
  subst he
  exact ⟨_, rfl, _, _, _, [], _, [], hW', trodAll_mk1 (shut_bool Try.underlying4 _), (trodAll_cons_mk (Below.trod laidOut (by kernel_rfl) (of_decide_eq_true (by kernel_rfl)) k0 bel lt0) (trodAll_cons_mk (Below.trod laidOut (by kernel_rfl) (of_decide_eq_true (by kernel_rfl)) k1 bel lt1) (trodAll_cons_mk (Below.trod laidOut (by kernel_rfl) (of_decide_eq_true (by kernel_rfl)) k2 bel lt2) (trodAll_cons_mk (Below.trod laidOut (by kernel_rfl) (of_decide_eq_true (by kernel_rfl)) k3 bel lt3) trodAll_mk0)))), rfl, bel.frame _, fun h => by cases h⟩

theorem over : Rows.spoolPutsRow.holds Try.pinned (OpenSpec.ofChange Rows.spoolPutsSpec) :=
  OpenClaim.holds_of_wide 5 Try.f5 rfl rfl rfl rfl rfl rfl rfl ⟨rfl, rfl, rfl, rfl, rfl⟩ rfl rfl rfl rfl rfl (by kernel_rfl) Try.func5 (by kernel_rfl)
    (of_decide_eq_true (by kernel_rfl)) (by unfold Func.isWrapper; first | (rw [if_pos (by decide +kernel)]; kernel_rfl) | (rw [if_neg (by decide +kernel)]; exact ⟨rfl, rfl⟩))
    (fun os started H enc _ => lifted os started H enc)

/-- THE STATEMENT. -/
theorem proved : Rows.SpoolPutsSaid := over
#print axioms proved
end SpoolPuts
end Go.Proofs.Ytdmehbejfigaiaa
