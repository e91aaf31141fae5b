/- The walk of the statement SpoolLeast. -/
import Derived.Test.YtdmehbejfigaiaaSpLive
import Derived.Test.YtdmehbejfigaiaaLeastL
import Derived.Deep.RegionHeld3
import Derived.Deep.DrawnRows
import Derived.Deep.RegionWith
namespace Go.Proofs.Ytdmehbejfigaiaa
open Go.RowKit
set_option linter.unusedVariables false
attribute [local go_sem ↓] Go.wp_at_zero Go.wp_at_succ

theorem Rd.take1 {w : World} {A : Option Addr} {l : List UInt8} (h : Rd w A l) (n : Nat) : Rd w A (l.take n) := by
  rcases h with rfl | ⟨b, off, hA, hc⟩
  · exact .inl (by simp)
  · refine .inr ⟨b, off, hA, fun j hj => ?_⟩
    rw [List.length_take] at hj
    rw [hc j (by omega)]
    simp
/-- num in a region that draws its order. -/
theorem numE_q (n : Int) (w : World) (k : Nat) : Calls Try.prog 16 #[.int .i64 n] (w.drewN k) fun e w'' => e = .returned (.int .i64 n) ∧ ∃ m, w'' = w.drewN m :=
  (numE_any n _).mono fun e w' ⟨he, hw⟩ => ⟨he, k, hw.symm⟩
/-- One number laid, as a statement's call leaves it. -/
theorem num_one (x : Nat) (W W2 : World) (hx : x < 18446744073709551616) (hw : W2 = W.alloc (.cells #[.int .u64 (x : Int)] 23) ∨ W2 = (W.alloc (.cells #[.int .u64 (x : Int)] 23)).drew) (n : Nat) (hn : (laidB x 0).length = n) :
    Calls Try.prog 11 #[.slice none 0 0, .slice (some ⟨W.heap.size, 0, none⟩) 1 1] W2 fun e w' => ∃ A c, e = .returned (.slice A n c) ∧ Rd w' A (laidB x 0) ∧ Below W.heap.size W w' := by
  have hb : Below W.heap.size W W2 := by
    rcases hw with rfl | rfl
    · exact below_alloc W _
    · exact (below_alloc W _).drew
  have hk : RdK .u64 W2 (some ⟨W.heap.size, 0, none⟩) [(x : Int)] := by
    rcases hw with rfl | rfl
    · exact rdk_one .u64 W x 23
    · exact rdk_one .u64 W x 23
  have e1 : [] ++ laidL [x] = laidB x 0 := by simp [laidL]
  refine (num_lay none (some ⟨W.heap.size, 0, none⟩) [] [x] 0 0 1 1 W2 rfl rfl (Nat.le_refl _) (by omega) (.inl rfl) hk (by intro y hy; simp at hy; subst hy; exact hx) (by omega)).mono ?_
  rintro e w' ⟨v, rfl, hga, hb'⟩
  rw [e1] at hga
  obtain ⟨A, c, rfl, hr, _⟩ := hga.rd
  exact ⟨A, c, by rw [hn], hr, below_step hb hb'⟩
/-- One int laid. -/
theorem int_one (x : Int) (W W2 : World) (hx : -9223372036854775808 ≤ x ∧ x ≤ 9223372036854775807) (hw : W2 = W.alloc (.cells #[.int .i64 x] 2) ∨ W2 = (W.alloc (.cells #[.int .i64 x] 2)).drew) (n : Nat) (hn : (laidI x).length = n) :
    Calls Try.prog 18 #[.slice none 0 0, .slice (some ⟨W.heap.size, 0, none⟩) 1 1] W2 fun e w' => ∃ A c, e = .returned (.slice A n c) ∧ Rd w' A (laidI x) ∧ Below W.heap.size W w' := by
  have hb : Below W.heap.size W W2 := by
    rcases hw with rfl | rfl
    · exact below_alloc W _
    · exact (below_alloc W _).drew
  have hk : RdK .i64 W2 (some ⟨W.heap.size, 0, none⟩) [x] := by
    rcases hw with rfl | rfl
    · exact rdk_one .i64 W x 2
    · exact rdk_one .i64 W x 2
  have e1 : [] ++ laidIs [x] = laidI x := by simp [laidIs]
  refine (int_lay none (some ⟨W.heap.size, 0, none⟩) [] [x] 0 0 1 1 W2 rfl rfl (Nat.le_refl _) (by omega) (.inl rfl) hk (by intro y hy; simp at hy; subst hy; exact hx) (by omega)).mono ?_
  rintro e w' ⟨v, rfl, hga, hb'⟩
  rw [e1] at hga
  obtain ⟨A, c, rfl, hr, _⟩ := hga.rd
  exact ⟨A, c, by rw [hn], hr, below_step hb hb'⟩

end Go.Proofs.Ytdmehbejfigaiaa
