/- PROVED: for every input the call of emberslaw03.SealBlocks returns true, and each argument reads afterwards as it read before. No condition. -/
import Derived.Test.YthdhinhedgcbcaaRows
import Derived.Test.YthdhinhedgcbcaaBlocksW
import Derived.Test.YthdhinhedgcbcaaOpen
namespace Go.Proofs.Ythdhinhedgcbcaa
open Go.ChangeShapes Go.WideShapes Go.ChangeAt Go.RowKit Go.Joins
set_option linter.unusedVariables false

namespace SealBlocks
theorem own : ownKnob Try.prog.godebug = none := by kernel_rfl
theorem laidOut : laidOutB Try.prog = true := by kernel_rfl
theorem cellsSealed : Try.prog.cellsOf 25 = 3 := by kernel_rfl

set_option maxRecDepth 100000 in
theorem lifted (os : Os) (started : os.Started) (H : Type) (enc : TypeId × Value → H) :
    ReturnsInHanded {} Try.checked os 5 .any (Rows.sealBlocksSpec.pre6 enc Try.prog Try.f5 Rows.sealBlocksRow.domain false) (Rows.sealBlocksSpec.post enc Try.prog Try.f5 false true false false) := by
  refine returnsInHanded_of_change (C := Try.checked) own started (by kernel_rfl) Try.func5
    (ChangeSpec.witness6 (enc := enc) (C := Try.checked) false ⟨#[], #[.int .i64 0, .agg #[.int .u8 0, .int .u64 0, .slice none 0 0], .slice none 0 0], []⟩ 8 (by kernel_rfl) (by kernel_rfl) (by kernel_rfl) (by kernel_rfl)) ?_
  intro W base args ds gs before hval0 hW hcnd _
  have hval : ∀ (j : Nat) t v, Try.f5.params[j]? = some t → args[j]? = some v → Value.okWide Try.prog W .any base t v := hval0
  have hW' := hW
  obtain ⟨p, q, hA0, hV, rfl, hfz, hnd⟩ := hW
  have hA : DataW.TrodAll enc Try.prog W 0 (fun _ => true) true Try.f5.params.toList args.toList ds p := hA0
  rw [Try.params5] at hA hval
  obtain ⟨v0, vs0, d0, ds0, p0, q0, hargs, rfl, rfl, h0, r0⟩ := trodAll_cons hA
  obtain ⟨v1, vs1, d1, ds1, p1, q1, rfl, rfl, rfl, h1, r1⟩ := trodAll_cons r0
  obtain ⟨v2, vs2, d2, ds2, p2, q2, rfl, rfl, rfl, h2, r2⟩ := trodAll_cons r1
  obtain ⟨rfl, rfl, rfl⟩ := trodAll_nil r2
  obtain rfl : args = #[v0, v1, v2] := by cases args; simp_all
  obtain ⟨rfl, rfl⟩ := trodVars_none hV
  obtain ⟨a0, rfl, rfl, rfl, w0⟩ := open_int Try.underlying3 (hval 0 3 v0 rfl rfl) h0
  have k1 := h1
  have lt1 : ∀ x ∈ p1, x.block < W.heap.size := by obtain ⟨m, hm⟩ := k1; exact DataW.trod_lt m _ _ _ hm
  obtain ⟨c10, c11, c12, y10, y11, y12, m1, rfl, rfl, hp1, hy10, hy11, hy12⟩ := open_agg3 Try.underlying25 (by kernel_rfl) cellsSealed (hval 1 25 v1 rfl rfl) h1
  obtain ⟨kind1, e10, hd10, wk1⟩ := DataW.trod_int Try.underlying5 hy10
  obtain ⟨num1, e11, hd11, wn1⟩ := DataW.trod_int Try.underlying22 hy11
  obtain ⟨A1, len1, cap1, l1, rfl, hl1, hnc1, hc1, hr1⟩ := open_bytes Try.underlying23 Try.underlying5 (by kernel_rfl) hy12
  injection e10 with e10
  injection e11 with e11
  subst e10 e11
  have bk1 := bounds_u8 wk1
  have bn1 := bounds_u64 wn1
  obtain ⟨k1n, rfl⟩ := Int.eq_ofNat_of_zero_le bk1.1
  obtain ⟨m1n, rfl⟩ := Int.eq_ofNat_of_zero_le bn1.1
  have k2 := h2
  have lt2 : ∀ x ∈ p2, x.block < W.heap.size := by obtain ⟨m, hm⟩ := k2; exact DataW.trod_lt m _ _ _ hm
  obtain ⟨A2, len2, cap2, rfl⟩ := okWide_slice Try.underlying23 (hval 2 23 v2 rfl rfl)
  obtain ⟨l2, hl2, hnc2, hc2, hr2⟩ : ∃ l : List UInt8, l.length = len2 ∧ len2 ≤ cap2 ∧ cap2 ≤ 9223372036854775807 ∧ Rd W A2 l := by
    obtain ⟨fuel, hf⟩ := h2
    obtain ⟨A, n, c, l, e, h1, h2, h3, h4⟩ := open_bytes (v := .slice A2 len2 cap2) Try.underlying23 Try.underlying5 (by kernel_rfl) (by simpa [Value.cells] using hf)
    injection e with e1 e2 e3
    subst e1 e2 e3
    exact ⟨l, h1, h2, h3, h4⟩
  clear hA0 hval0
  refine (blocks_any a0 k1n m1n A1 A2 len1 cap1 len2 cap2 l1 l2 W (by omega) (by omega) hl1 hr1 hl2 hr2).mono fun e W' ⟨he, bel⟩ => ?_
  subst he
  exact ⟨_, rfl, _, _, _, [], _, [], hW', trodAll_mk1 (shut_bool Try.underlying4 _), (trodAll_cons_mk (shut_int Try.underlying3 w0) (trodAll_cons_mk (Below.trod laidOut (by kernel_rfl) (of_decide_eq_true (by kernel_rfl)) k1 bel lt1) (trodAll_cons_mk (Below.trod laidOut (by kernel_rfl) (of_decide_eq_true (by kernel_rfl)) k2 bel lt2) trodAll_mk0))), rfl, bel.frame _, fun h => by cases h⟩

theorem over : Rows.sealBlocksRow.holds Try.pinned (OpenSpec.ofChange Rows.sealBlocksSpec) :=
  OpenClaim.holds_of_wide 5 Try.f5 rfl rfl rfl rfl rfl rfl rfl ⟨rfl, rfl, rfl, rfl, rfl⟩ rfl rfl rfl rfl rfl (by kernel_rfl) Try.func5 (by kernel_rfl)
    (of_decide_eq_true (by kernel_rfl)) (by unfold Func.isWrapper; first | (rw [if_pos (by decide +kernel)]; kernel_rfl) | (rw [if_neg (by decide +kernel)]; exact ⟨rfl, rfl⟩))
    (fun os started H enc _ => lifted os started H enc)

/-- THE STATEMENT. -/
theorem proved : Rows.SealBlocksSaid := over
#print axioms proved
end SealBlocks
end Go.Proofs.Ythdhinhedgcbcaa
