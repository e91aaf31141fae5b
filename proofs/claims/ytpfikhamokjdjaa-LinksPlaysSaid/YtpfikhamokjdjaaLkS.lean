/- Links (layer 18): the document's Watches (are two lists the same?); equality of watches and of pairs. -/
import Derived.Test.YtpfikhamokjdjaaLkR
import Derived.Laws.StructEq
namespace Go.Proofs.Ytpfikhamokjdjaa
open Go.RowKit Go.Maps Go.WideMaps Go.Shelf Go.Sort
set_option linter.unusedVariables false

theorem eqIn33 (x y : WV) (w : World) : (Op.equalIn 10000 33 (wv x) (wv y)).run Try.prog w = .ok (x == y) w := by
  have u3 := Try.underlying2
  have a3 := Try.isAgg2
  have z3 := Try.sizeOf2
  have hS : Try.prog.underlying 33 = some (.struct (Try.prog.fieldsOf 33)) := by kernel_rfl
  have hp : Try.prog.stoodInHeld 33 = false := by kernel_rfl
  unfold wv
  rw [show (10000 : Nat) = 9999 + 1 from rfl, run_equalIn_agg w 9999 33 _ _ hS hp]
  simp only [Program.fieldsOf, Try.underlying33]
  go_simp
  obtain ⟨x1, x2, x3⟩ := x
  obtain ⟨y1, y2, y3⟩ := y
  have e : ((⟨x1, x2, x3⟩ : WV) == ⟨y1, y2, y3⟩) = decide (x1 = y1 ∧ x2 = y2 ∧ x3 = y3) := by
    rw [Bool.eq_iff_iff]; simp
  rw [e]
  by_cases h1 : x1 = y1 <;> by_cases h2 : x2 = y2 <;> by_cases h3 : x3 = y3 <;> simp [h1, h2, h3]
theorem neqW (x y : WV) (w : World) : (binOp .neq 33 (wv x) (wv y)).run Try.prog w = .ok (.bool (x != y)) w := by
  have h := eqIn33 x y w
  unfold wv at *
  rw [run_neq_struct, h]
  rfl
set_option maxRecDepth 100000 in
set_option maxHeartbeats 1000000 in
theorem rwatches_v {W : World} {v1 v2 : Value} {xs ys : WL} (h1 : RowW W v1 xs) (h2 : RowW W v2 ys) (hx : xs.length ≤ 1000000) (hy : ys.length ≤ 1000000) :
    Calls Try.prog 20 #[v1, v2] W fun e w' => e = .returned (.bool (decide (xs = ys))) ∧ Below W.heap.size W w' := by
  obtain ⟨base1, h1⟩ := h1
  obtain ⟨base2, h2⟩ := h2
  obtain ⟨A1, c1, rfl⟩ := own_slice9 h1
  obtain ⟨A2, c2, rfl⟩ := own_slice9 h2
  obtain ⟨m, hm⟩ : ∃ m, xs.length = m := ⟨_, rfl⟩
  obtain ⟨q, hq⟩ : ∃ q, ys.length = q := ⟨_, rfl⟩
  rw [hm] at h1 hx ⊢
  rw [hq] at h2 hy ⊢
  have HM := Lib.hid hm
  have HQ := Lib.hid hq
  have H1 := Lib.hid h1
  have H2 := Lib.hid h2
  clear hm hq h1 h2
  by_cases hmq : m = q
  · subst hmq
    have d0 : ((m : Int) != (m : Int)) = false := by simp
    go_enter Try.func20, Try.ntmps20
    go_wp2
    go_loopw [5] (fun i wr => ∃ k : Nat, k ≤ m ∧ i = .int .i64 (k : Int) ∧ xs.take k = ys.take k ∧ Below W.heap.size W wr) (fun i _ => m + 1 - (intOf i).toNat)
    case atStart => exact ⟨0, Nat.zero_le _, rfl, rfl, Below.refl _ _⟩
    case round =>
      obtain ⟨k, hk, rfl, htk, hbw⟩ := hrel
      have HTK := Lib.hid htk
      have HBW := Lib.hid hbw
      clear htk hbw
      by_cases hlt : k < m
      · have hkx : k < xs.length := by rw [HM.out]; exact hlt
        have hky : k < ys.length := by rw [HQ.out]; exact hlt
        have H1w := Lib.hid (own_bel H1.out HBW.out)
        have H2w := Lib.hid (own_bel H2.out HBW.out)
        obtain ⟨g1, rfl, hc1⟩ := own_at9 (g := 0) (c := c1) H1w.out (by omega)
        obtain ⟨g2, rfl, hc2⟩ := own_at9 (g := 0) (c := c2) H2w.out (by omega)
        have q1 : (0 : Int) ≤ (k : Int) := by omega
        have q2 : (k : Int) < (m : Int) := by omega
        obtain ⟨a1, a1', a1''⟩ := cellW H1w.out hkx HM.out
        obtain ⟨a2, a2', a2''⟩ := cellW H2w.out hky HQ.out
        have HEQ := Lib.hid (fun (he : xs[k] = ys[k]) => take_eq_of (by rw [HM.out, HQ.out]) hkx HTK.out he)
        have HNE := Lib.hid (fun (he : xs[k] ≠ ys[k]) (h9 : xs = ys) => he (by subst h9; rfl))
        generalize xs[k] = z1 at a1 a1' a1'' HEQ HNE
        generalize ys[k] = z2 at a2 a2' a2'' HEQ HNE
        by_cases he : z1 = z2
        · have d1 := fun w => (neqW z1 z2 w).trans (by rw [show (z1 != z2) = false by simpa using he])
          have HT := Lib.hid (HEQ.out he)
          have hlt' : decide (k < m) = true := by simpa using hlt
          clear he HEQ HNE
          unfold wv at d1
          go_wp2
          go_quiet (fail)
          go_wp2
          go_roundw
          case rel => exact ⟨k + 1, hlt, by go_num, HT.out, below_drewN HBW.out _⟩
          case measure => simp [intOf]; omega
        · have d1 := fun w => (neqW z1 z2 w).trans (by rw [show (z1 != z2) = true by simpa using he])
          have HF := Lib.hid (show decide (xs = ys) = false by simpa using HNE.out he)
          have hlt' : decide (k < m) = true := by simpa using hlt
          clear he HEQ HNE
          unfold wv at d1
          go_wp2
          go_quiet (fail)
          go_wp2
          go_ret
          rw [HF.out]
          exact ⟨rfl, below_drewN HBW.out _⟩
      · obtain rfl : k = m := by omega
        have hd : decide (k < k) = false := by simp
        have HF : Hid (decide (xs = ys) = true) := by
          have h9 := HTK.out
          rw [List.take_of_length_le (by rw [HM.out]; exact Nat.le_refl _), List.take_of_length_le (by rw [HQ.out]; exact Nat.le_refl _)] at h9
          exact decide_eq_true h9
        go_wp2
        go_ret
        rw [HF.out]
        exact ⟨rfl, HBW.out⟩
  · have d0 : ((m : Int) != (q : Int)) = true := by simp; omega
    have HF := Lib.hid (show decide (xs = ys) = false by simp only [decide_eq_false_iff_not]; intro e; apply hmq; rw [← HM.out, ← HQ.out, e])
    clear hmq
    go_enter Try.func20, Try.ntmps20
    go_wp2
    go_ret
    rw [HF.out]
    exact ⟨rfl, Below.refl _ _⟩
end Go.Proofs.Ytpfikhamokjdjaa
