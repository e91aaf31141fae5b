/- Links (layer 18): the comparators of the two sorts; the library's sorts at rows of the call's own. -/
import Derived.Test.YtpfikhamokjdjaaLkM
import Derived.Test.YtpfikhamokjdjaaSort
namespace Go.Proofs.Ytpfikhamokjdjaa
open Go.RowKit Go.Maps Go.WideMaps Go.Shelf Go.Sort
set_option linter.unusedVariables false

def cmpI (a b : Int) : Int := if a < b then -1 else if b < a then 1 else 0
theorem isnan_v (a : Int) (W : World) : Calls Try.prog 45 #[.int .i64 a] W fun e w' => e = .returned (.bool false) ∧ W = w' := by
  have d1 : (a != a) = false := by simp
  go_enter Try.func45, Try.ntmps45
  go_wp2
  go_ret
  exact ⟨rfl, rfl⟩
theorem compare_v (a b : Int) (W : World) : Calls Try.prog 33 #[.int .i64 a, .int .i64 b] W fun e w' => e = .returned (.int .i64 (cmpI a b)) ∧ W = w' := by
  have HA := Lib.hid (fun x V => isnan_v x V)
  rcases Int.lt_trichotomy a b with h | h | h
  · have HE := Lib.hid (show cmpI a b = -1 by unfold cmpI; rw [if_pos h])
    have d1 : decide (a < b) = true := by simpa using h
    go_enter Try.func33, Try.ntmps33
    go_wp2_with (go_at_call 45; refine (HA.out _ _).mono ?_; rintro e w' ⟨rfl, rfl⟩)
    go_ret
    rw [HE.out]
    exact ⟨rfl, rfl⟩
  · have HE := Lib.hid (show cmpI a b = 0 by unfold cmpI; rw [if_neg (by omega), if_neg (by omega)])
    have d1 : decide (a < b) = false := by simp; omega
    have d2 : decide (b < a) = false := by simp; omega
    clear h
    go_enter Try.func33, Try.ntmps33
    go_wp2_with (go_at_call 45; refine (HA.out _ _).mono ?_; rintro e w' ⟨rfl, rfl⟩)
    go_ret
    rw [HE.out]
    exact ⟨rfl, rfl⟩
  · have HE := Lib.hid (show cmpI a b = 1 by unfold cmpI; rw [if_neg (by omega), if_pos h])
    have d1 : decide (a < b) = false := by simp; omega
    have d2 : decide (b < a) = true := by simpa using h
    clear h
    go_enter Try.func33, Try.ntmps33
    go_wp2_with (go_at_call 45; refine (HA.out _ _).mono ?_; rintro e w' ⟨rfl, rfl⟩)
    go_ret
    rw [HE.out]
    exact ⟨rfl, rfl⟩
def cmpW (x y : WV) : Int := cmpI x.ref y.ref
theorem cmpW_v (x y : WV) (W : World) : Calls Try.prog 32 #[wv x, wv y] W fun e w' => e = .returned (.int .i64 (cmpW x y)) ∧ ∃ q os', w' = grow (W.drewN q) os' := by
  have HC := Lib.hid (fun V => compare_v x.ref y.ref V)
  have HE := Lib.hid (show cmpW x y = cmpI x.ref y.ref from rfl)
  rw [HE.out]
  generalize cmpI x.ref y.ref = r at HC ⊢
  unfold wv
  go_enter Try.func32, Try.ntmps32
  go_wp2_with (go_at_call 33; refine (HC.out _).mono ?_; rintro e w' ⟨rfl, rfl⟩)
  go_ret
  exact ⟨rfl, 0, _, by rw [alloc_eq_grow, alloc_eq_grow, grow_grow]; rfl⟩
def cmpP (x y : Int × Int) : Int := if cmpI x.1 y.1 ≠ 0 then cmpI x.1 y.1 else cmpI x.2 y.2
set_option maxRecDepth 100000 in
set_option maxHeartbeats 1000000 in
theorem scompare_v (x y : Int × Int) (g1 g2 : Nat) (W : World) (h1 : Blk W g1 45 #[.int .i64 x.1, .int .i64 x.2]) (h2 : Blk W g2 45 #[.int .i64 y.1, .int .i64 y.2]) :
    Calls Try.prog 37 #[.slice (some ⟨g1, 0, none⟩) 2 2, .slice (some ⟨g2, 0, none⟩) 2 2] W fun e w' => e = .returned (.int .i64 (cmpP x y)) ∧ W = w' := by
  have x0 := h1.cell 0
  have x1 := h1.cell 1
  have y0 := h2.cell 0
  have y1 := h2.cell 1
  have HC1 := Lib.hid (fun V => compare_v x.1 y.1 V)
  have HC2 := Lib.hid (fun V => compare_v x.2 y.2 V)
  have HE := Lib.hid (show cmpP x y = if cmpI x.1 y.1 ≠ 0 then cmpI x.1 y.1 else cmpI x.2 y.2 from rfl)
  rw [HE.out]
  clear h1 h2 HE
  generalize cmpI x.1 y.1 = r1 at *
  generalize cmpI x.2 y.2 = r2 at *
  obtain ⟨xa, xb⟩ := x
  obtain ⟨ya, yb⟩ := y
  by_cases hr : r1 = 0
  · have HR := Lib.hid (show (if r1 ≠ 0 then r1 else r2) = r2 by rw [if_neg (by omega)])
    rw [HR.out]
    subst hr
    by_cases hr2 : r2 = 0
    · subst hr2
      go_enter Try.func37, Try.ntmps37
      go_wp2
      refine wp_loop_rounds 3 ?_
      rw [rounds_succ]
      go_wp2_with (go_at_call 33; first | ((with_reducible refine (HC1.out _).mono ?_); rintro e w' ⟨rfl, rfl⟩) | ((with_reducible refine (HC2.out _).mono ?_); rintro e w' ⟨rfl, rfl⟩))
      rw [rounds_succ]
      go_wp2_with (go_at_call 33; first | ((with_reducible refine (HC1.out _).mono ?_); rintro e w' ⟨rfl, rfl⟩) | ((with_reducible refine (HC2.out _).mono ?_); rintro e w' ⟨rfl, rfl⟩))
      rw [rounds_succ]
      go_wp2
      go_ret
      exact ⟨rfl, rfl⟩
    · have d1 : (r2 != 0) = true := by simpa using hr2
      clear hr2
      go_enter Try.func37, Try.ntmps37
      go_wp2
      refine wp_loop_rounds 3 ?_
      rw [rounds_succ]
      go_wp2_with (go_at_call 33; first | ((with_reducible refine (HC1.out _).mono ?_); rintro e w' ⟨rfl, rfl⟩) | ((with_reducible refine (HC2.out _).mono ?_); rintro e w' ⟨rfl, rfl⟩))
      rw [rounds_succ]
      go_wp2_with (go_at_call 33; first | ((with_reducible refine (HC1.out _).mono ?_); rintro e w' ⟨rfl, rfl⟩) | ((with_reducible refine (HC2.out _).mono ?_); rintro e w' ⟨rfl, rfl⟩))
      go_ret
      exact ⟨rfl, rfl⟩
  · have d1 : (r1 != 0) = true := by simpa using hr
    have HR := Lib.hid (show (if r1 ≠ 0 then r1 else r2) = r1 by rw [if_pos hr])
    rw [HR.out]
    clear hr
    go_enter Try.func37, Try.ntmps37
    go_wp2
    refine wp_loop_rounds 3 ?_
    rw [rounds_succ]
    go_wp2_with (go_at_call 33; first | ((with_reducible refine (HC1.out _).mono ?_); rintro e w' ⟨rfl, rfl⟩) | ((with_reducible refine (HC2.out _).mono ?_); rintro e w' ⟨rfl, rfl⟩))
    go_ret
    exact ⟨rfl, rfl⟩
set_option maxRecDepth 100000 in
set_option maxHeartbeats 1000000 in
theorem cmpP_v (x y : Int × Int) (W : World) : Calls Try.prog 36 #[pv x, pv y] W fun e w' => e = .returned (.int .i64 (cmpP x y)) ∧ ∃ q os', w' = grow (W.drewN q) os' := by
  have HC : Hid (∀ q, Calls Try.prog 37 #[.slice (some ⟨W.heap.size, 0, none⟩) 2 2, .slice (some ⟨W.heap.size + 1, 0, none⟩) 2 2] (((W.alloc (.cells #[.int .i64 x.1, .int .i64 x.2] 45)).alloc (.cells #[.int .i64 y.1, .int .i64 y.2] 45)).drewN q) fun e w' => e = .returned (.int .i64 (cmpP x y)) ∧ w' = ((W.alloc (.cells #[.int .i64 x.1, .int .i64 x.2] 45)).alloc (.cells #[.int .i64 y.1, .int .i64 y.2] 45)).drewN q) := fun q => by
    refine (scompare_v x y W.heap.size (W.heap.size + 1) _ ?_ ?_).mono fun _ _ h => ⟨h.1, h.2.symm⟩
    · exact ((Blk.new W _ _).alloc _).keep (below_drewN (Below.refl _ _) q)
    · have := Blk.new (W.alloc (.cells #[.int .i64 x.1, .int .i64 x.2] 45)) 45 #[.int .i64 y.1, .int .i64 y.2]
      exact (by simpa using this : Blk _ (W.heap.size + 1) _ _).keep (below_drewN (Below.refl _ _) q)
  generalize cmpP x y = r at HC ⊢
  obtain ⟨xa, xb⟩ := x
  obtain ⟨ya, yb⟩ := y
  unfold pv
  go_enter Try.func36, Try.ntmps36
  go_wp2
  go_quiet ((go_at_call 37; exact Calls.quiet_of_same (HC.out _)))
  go_wp2
  go_ret
  exact ⟨rfl, _, _, by rw [alloc_eq_grow, alloc_eq_grow, grow_grow]; rfl⟩
end Go.Proofs.Ytpfikhamokjdjaa
