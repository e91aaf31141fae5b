/- Links (layer 18): Unwatch. -/
import Derived.Test.YtpfikhamokjdjaaLkD
namespace Go.Proofs.Ytpfikhamokjdjaa
open Go.RowKit Go.Maps Go.WideMaps
set_option linter.unusedVariables false
section
variable {w0 W V : World} {pm b1 b2 n : Nat} {L : PL} {K : WL}
set_option maxRecDepth 100000 in
set_option maxHeartbeats 2000000 in
theorem unwatch_v (h : LK w0 W pm b1 b2 n L K) (r f : Int) (hx : i64ok r) :
    Calls Try.prog 17 #[.pointer (some ⟨pm, 0, none⟩), .int .i64 r, .int .i64 f] W (LEnd w0 W pm b1 b2 n (.bool (unwatchP K r f).1) L (unwatchP K r f).2) := by
  have HH := Lib.hid h
  have HX := Lib.hid hx
  clear h hx
  cases hgt : getW K r with
  | none =>
    have HGT := Lib.hid hgt
    have HE := Lib.hid (show unwatchP K r f = (false, K) by unfold unwatchP; rw [hgt])
    clear hgt
    go_enter Try.func17, Try.ntmps17
    go_upto_region 3 with (fail)
    refine wp_world (fun V => LK w0 V pm b1 b2 n L K ∧ Fr (fun k => k = b1 ∨ k = b2) W V) ⟨HH.out, .refl _ _⟩ ?_
    rintro V ⟨h1, h2⟩
    have H1 := Lib.hid h1
    have H2 := Lib.hid h2
    have m1 := h1.obj.cell 1
    have hk : ∀ U, Below V.heap.size V U → (Instr.lookup 54 (.map (some b2)) (.int .i64 r) true).run Try.prog U = .ok (.tuple #[.agg #[.int .i64 0, .int .i64 0, .int .i64 0], .bool false]) U := fun U hU => by
      have h9 := (h1.keep hU).w.look HX.out
      rw [HGT.out] at h9
      exact h9
    have l1 := hk V (Below.refl _ _)
    clear h1 h2 hk
    go_upto_region 4 with (fail)
    clear m1 l1
    all_goals
      obtain ⟨gy, hgy⟩ : ∃ gy, V.heap.size = gy := ⟨_, rfl⟩
      rw [hgy]
      refine wp_world (fun V => LK w0 V pm b1 b2 n L K ∧ Fr (fun k => k = b1 ∨ k = b2) W V ∧ Blk V gy 33 #[.int .i64 0, .int .i64 0, .int .i64 0]) ⟨H1.out.keep ?_, H2.out.same (Fr.of_below ?_ _), Blk.newAt9 hgy⟩ ?_
      · exact ((Below.refl _ _).alloc (Nat.le_refl _) _)
      · exact ((Below.refl _ _).alloc (Nat.le_refl _) _)
      clear H1 H2 hgy V
      rintro V ⟨h1, h2, h3⟩
      have H1 := Lib.hid h1
      have H2 := Lib.hid h2
      have m1 := h1.obj.cell 1
      have g1 := h3.cell 1
      clear h1 h2 h3
      go_wp2
      go_ret
      rw [HE.out]
      exact ⟨rfl, H1.out, H2.out⟩
  | some y =>
    have HGT := Lib.hid hgt
    by_cases hf : y.fr = f
    · have HE := Lib.hid (show unwatchP K r f = (true, delG keyW K (.int .i64 r)) by unfold unwatchP; rw [hgt]; simp only [hf, if_true])
      have d1 : (y.fr != f) = false := by simpa using hf
      clear hgt hf
      go_enter Try.func17, Try.ntmps17
      go_upto_region 3 with (fail)
      refine wp_world (fun V => LK w0 V pm b1 b2 n L K ∧ Fr (fun k => k = b1 ∨ k = b2) W V) ⟨HH.out, .refl _ _⟩ ?_
      rintro V ⟨h1, h2⟩
      have H1 := Lib.hid h1
      have H2 := Lib.hid h2
      have m1 := h1.obj.cell 1
      have hk : ∀ U, Below V.heap.size V U → (Instr.lookup 54 (.map (some b2)) (.int .i64 r) true).run Try.prog U = .ok (.tuple #[.agg #[.int .i64 y.ref, .int .i64 y.fr, .int .i64 y.to], .bool true]) U := fun U hU => by
        have h9 := (h1.keep hU).w.look HX.out
        rw [HGT.out] at h9
        exact h9
      have l1 := hk V (Below.refl _ _)
      clear h1 h2 hk
      go_upto_region 4 with (fail)
      clear m1 l1
      all_goals
        obtain ⟨gy, hgy⟩ : ∃ gy, V.heap.size = gy := ⟨_, rfl⟩
        rw [hgy]
        refine wp_world (fun V => LK w0 V pm b1 b2 n L K ∧ Fr (fun k => k = b1 ∨ k = b2) W V ∧ Blk V gy 33 #[.int .i64 y.ref, .int .i64 y.fr, .int .i64 y.to]) ⟨H1.out.keep ?_, H2.out.same (Fr.of_below ?_ _), Blk.newAt9 hgy⟩ ?_
        · exact ((Below.refl _ _).alloc (Nat.le_refl _) _)
        · exact ((Below.refl _ _).alloc (Nat.le_refl _) _)
        clear H1 H2 hgy V
        rintro V ⟨h1, h2, h3⟩
        have H1 := Lib.hid h1
        have H2 := Lib.hid h2
        have m1 := h1.obj.cell 1
        have g1 := h3.cell 1
        clear h1 h2 h3
        go_wp2_with (at_delete; refine wpList_delete_own _ rfl _ _ 54 2 rfl 33 ki64 Try.underlying54 _ b2 n (datG keyW wD K) rfl H1.out.w _ _ rfl (keyI64 HX.out) ?_; intro w9 o9 t9; rw [del_datG] at o9)
        obtain ⟨k1, k2⟩ := H1.out.turnW (Nat.le_refl n) t9.grown o9 (H1.out.lk.delW _)
        go_ret
        rw [HE.out]
        exact ⟨rfl, k1, H2.out.same k2⟩
    · have HE := Lib.hid (show unwatchP K r f = (false, K) by unfold unwatchP; rw [hgt]; simp only [hf, if_false])
      have d1 : (y.fr != f) = true := by simpa using hf
      clear hgt hf
      go_enter Try.func17, Try.ntmps17
      go_upto_region 3 with (fail)
      refine wp_world (fun V => LK w0 V pm b1 b2 n L K ∧ Fr (fun k => k = b1 ∨ k = b2) W V) ⟨HH.out, .refl _ _⟩ ?_
      rintro V ⟨h1, h2⟩
      have H1 := Lib.hid h1
      have H2 := Lib.hid h2
      have m1 := h1.obj.cell 1
      have hk : ∀ U, Below V.heap.size V U → (Instr.lookup 54 (.map (some b2)) (.int .i64 r) true).run Try.prog U = .ok (.tuple #[.agg #[.int .i64 y.ref, .int .i64 y.fr, .int .i64 y.to], .bool true]) U := fun U hU => by
        have h9 := (h1.keep hU).w.look HX.out
        rw [HGT.out] at h9
        exact h9
      have l1 := hk V (Below.refl _ _)
      clear h1 h2 hk
      go_upto_region 4 with (fail)
      clear m1 l1
      all_goals
        obtain ⟨gy, hgy⟩ : ∃ gy, V.heap.size = gy := ⟨_, rfl⟩
        rw [hgy]
        refine wp_world (fun V => LK w0 V pm b1 b2 n L K ∧ Fr (fun k => k = b1 ∨ k = b2) W V ∧ Blk V gy 33 #[.int .i64 y.ref, .int .i64 y.fr, .int .i64 y.to]) ⟨H1.out.keep ?_, H2.out.same (Fr.of_below ?_ _), Blk.newAt9 hgy⟩ ?_
        · exact ((Below.refl _ _).alloc (Nat.le_refl _) _)
        · exact ((Below.refl _ _).alloc (Nat.le_refl _) _)
        clear H1 H2 hgy V
        rintro V ⟨h1, h2, h3⟩
        have H1 := Lib.hid h1
        have H2 := Lib.hid h2
        have m1 := h1.obj.cell 1
        have g1 := h3.cell 1
        clear h1 h2 h3
        go_wp2
        go_ret
        rw [HE.out]
        exact ⟨rfl, H1.out, H2.out⟩
end
end Go.Proofs.Ytpfikhamokjdjaa
