/- The walk of MailboxNil. -/
import Derived.Test.YthmlpiiajlfmcaaMLive
namespace Go.Proofs.Ythmlpiiajlfmcaa
open Go.RowKit
set_option linter.unusedVariables false

theorem all_nil (W : World) : Calls Try.prog 18 #[.pointer none] W fun e w' => ∃ A' c', e = .returned (.tuple #[.slice A' 0 c', .bool true]) ∧ Below W.heap.size W w' :=
  (all_in W _ [] W (by simp) (Below.refl _ _) .none rfl).mono fun e w' ⟨A', c', he, _, hb⟩ => ⟨A', c', he, hb⟩

set_option maxRecDepth 100000 in
set_option maxHeartbeats 2000000 in
theorem mailboxNil_any (k n : Int) (s : List UInt8) (A : Option Addr) (len c : Nat) (i : Int) (w : World) : Calls Try.prog 6 #[.agg #[.int .i64 k, .int .i64 n, .string ⟨s.toArray⟩, .slice A len c], .int .i64 i] w (Yes w) := by
  go_enter Try.func6, Try.ntmps6
  go_upto_region 2 with (fail)
  obtain ⟨tb, htb⟩ : ∃ tb, w.heap.size = tb := ⟨_, rfl⟩
  refine wp_world (fun W => Below w.heap.size w W ∧ Blk W w.heap.size 35 #[.int .i64 k, .int .i64 n, .string ⟨s.toArray⟩, .slice A len c]) ⟨below_alloc _ _, Blk.new _ _ _⟩ ?_
  rw [htb]
  rintro W1 ⟨hb1, hk1⟩
  go_upto_region 3 with (go_at_call 15; refine (btake_nil i _).mono ?_; rintro e w2 ⟨rfl, hb2⟩)
  refine wp_world (fun W => Below W1.heap.size W1 W) (below_step hb2 (below_alloc _ _)) ?_
  clear hb2
  intro W2 hb2
  go_upto_region 4 with (go_at_call 18; refine (all_nil _).mono ?_; rintro e w3 ⟨A', c', rfl, hb3⟩)
  refine wp_world (fun W => Below W1.heap.size W1 W) (below_step hb2 hb3) ?_
  clear hb3 hb2
  intro X hb4
  have hk4 := hk1.keep hb4
  have HX : Hid (Below w.heap.size w X) := by rw [← htb] at hb1; exact below_step hb1 hb4
  have c0 := hk4.cell 0
  have c1 := hk4.cell 1
  have c2 := hk4.cell 2
  have c3 := hk4.cell 3
  have hb9 : Below X.heap.size X X := Below.refl _ _
  have HPUT : Hid (∀ V, Below X.heap.size X V → Calls Try.prog 13 #[.pointer none, .agg #[.int .i64 k, .int .i64 n, .string ⟨s.toArray⟩, .slice A len c]] V fun e w' => e = .returned (.int .i64 7) ∧ Below X.heap.size X w') := fun V hb => (bput_nil k n s A len c V).mono fun e w' ⟨he, h⟩ => ⟨he, below_step hb h⟩
  have HLIVE : Hid (∀ V, Below X.heap.size X V → Calls Try.prog 9 #[] V fun e w' => e = .returned (.bool true) ∧ Below X.heap.size X w') := fun V hb => (live_any V).mono fun e w' ⟨he, h⟩ => ⟨he, below_step hb h⟩
  clear hk4 hb4 hk1 hb1 htb
  go_wp2_with (first
    | (go_at_call 12; refine (num_any _ _).mono ?_; rintro e w' ⟨rfl, rfl⟩)
    | (go_at_call 13; refine (HPUT.out _ hb9).mono ?_; clear hb9; rintro e w' ⟨rfl, hb9⟩)
    | (go_at_call 20; refine (blen_nil _).mono ?_; rintro e w' ⟨rfl, rfl⟩)
    | (go_at_call 21; refine (bparts_nil _).mono ?_; rintro e w' ⟨rfl, rfl⟩)
    | (go_at_call 9; refine (HLIVE.out _ hb9).mono ?_; clear hb9; rintro e w' ⟨rfl, hb9⟩))
  go_ret
  exact ⟨rfl, below_step HX.out hb9⟩
end Go.Proofs.Ythmlpiiajlfmcaa
