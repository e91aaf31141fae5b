/- Links (layer 18): Watch, Unwatch. -/
import Derived.Test.YtpfikhamokjdjaaLkC
import Derived.BigRegion
namespace Go.Proofs.Ytpfikhamokjdjaa
open Go.RowKit Go.Maps Go.WideMaps
set_option linter.unusedVariables false

def watchP (K : WL) (x : WV) : Nat × WL := if (getW K x.ref).isSome = true then (8, K) else (0, insG keyW x K)
def unwatchP (K : WL) (r f : Int) : Bool × WL := match getW K r with
  | some y => if y.fr = f then (true, delG keyW K (.int .i64 r)) else (false, K)
  | none => (false, K)
section
variable {w0 W V : World} {pm b1 b2 n : Nat} {L : PL} {K : WL}
/-- The watches' map has turned. -/
theorem LK.turnW (h : LK w0 W pm b1 b2 n L K) {m : Nat} {K' : WL} (hm : n ≤ m) (hg : W.grownBy V (some b2)) (hp : WM V b2 m K') (hl : LOk L K') : LK w0 V pm b1 b2 m L K' ∧ Fr (fun k => k = b1 ∨ k = b2) W V := by
  obtain ⟨n1, n2, n3⟩ := h.ne
  have hf : Fr (fun k => k = b1 ∨ k = b2) W V := Fr.of_grown hg fun k e _ => .inr (Option.some.inj e).symm
  refine ⟨?_, hf⟩
  exact { h with
    old := h.old.trans (hf.below h.old.size (fun k hk => by rcases hk with rfl | rfl; exact h.lo.2.1; exact h.lo.2.2))
    obj := h.obj.grown hg (fun e => n3 (Option.some.inj e))
    p := (h.p.grown hg (fun e => n1 (Option.some.inj e))).mono hm
    w := hp
    hi := ⟨Nat.lt_of_lt_of_le h.hi.1 hg.size, Nat.lt_of_lt_of_le h.hi.2.1 hg.size, Nat.lt_of_lt_of_le h.hi.2.2 hg.size⟩
    lk := hl }
theorem LK.more (h : LK w0 V pm b1 b2 n L K) : LK w0 V pm b1 b2 (n + 1) L K := { h with p := h.p.mono (Nat.le_succ _), w := h.w.mono (Nat.le_succ _) }
theorem LOk.addW (h : LOk L K) {x : WV} (hx : i64ok x.ref ∧ i64ok x.fr ∧ i64ok x.to) (hno : getW K x.ref = none) : LOk L (insG keyW x K) := by
  have hp := insG_perm (key := keyW) (x := x) (L := K)
  refine ⟨h.ok, h.nd, fun p hp9 => ?_, hp.symm.pairwise (List.pairwise_cons.2 ⟨fun y hy e => ?_, h.knd⟩) (fun h9 e => h9 e.symm)⟩
  · rcases List.mem_cons.1 (hp.mem_iff.1 hp9) with rfl | h9
    · exact hx
    · exact h.kok p h9
  · have h9 := List.find?_eq_none.1 hno y hy
    simp [keyW, e, Lit.sameKey] at h9
theorem LOk.delW (h : LOk L K) (k : Lit) : LOk L (delG keyW K k) := ⟨h.ok, h.nd, fun p hp => h.kok p (List.mem_filter.1 hp).1, h.knd.sublist List.filter_sublist⟩
set_option maxRecDepth 100000 in
set_option maxHeartbeats 2000000 in
theorem watch_v (h : LK w0 W pm b1 b2 n L K) (x : WV) (hx : i64ok x.ref ∧ i64ok x.fr ∧ i64ok x.to) (hn : n ≤ 99998) :
    Calls Try.prog 11 #[.pointer (some ⟨pm, 0, none⟩), wv x] W (LEnd w0 W pm b1 b2 (n + 1) (.int .i64 ((watchP K x).1 : Int)) L (watchP K x).2) := by
  have HH := Lib.hid h
  have HX := Lib.hid hx
  clear h hx
  obtain ⟨gx, hgx⟩ : ∃ gx, W.heap.size = gx := ⟨_, rfl⟩
  have HG := Lib.hid hgx
  unfold wv
  cases hgt : getW K x.ref with
  | some y =>
    have HGT := Lib.hid hgt
    have HE := Lib.hid (show watchP K x = (8, K) by unfold watchP; rw [hgt]; rfl)
    clear hgt
    go_enter Try.func11, Try.ntmps11
    go_upto_region 3 with (fail)
    refine wp_world (fun V => LK w0 V pm b1 b2 n L K ∧ Below W.heap.size W V ∧ Blk V gx 33 #[.int .i64 x.ref, .int .i64 x.fr, .int .i64 x.to]) ⟨HH.out.keep (below_alloc _ _), below_alloc _ _, by rw [← HG.out]; exact Blk.new _ _ _⟩ ?_
    rintro V ⟨h1, h2, h3⟩
    have H1 := Lib.hid h1
    have H2 := Lib.hid h2
    have H3 := Lib.hid h3
    have m1 := h1.obj.cell 1
    have g0 := h3.cell 0
    have hk : ∀ U, Below V.heap.size V U → (Instr.lookup 54 (.map (some b2)) (.int .i64 x.ref) true).run Try.prog U = .ok (.tuple #[.agg #[.int .i64 y.ref, .int .i64 y.fr, .int .i64 y.to], .bool true]) U := fun U hU => by
      have h9 := (h1.keep hU).w.look HX.out.1
      rw [HGT.out] at h9
      exact h9
    have l1 := hk V.drew (Below.refl _ _).drew
    have l2 := hk (V.drew.alloc (.cells #[.int .i64 0, .int .i64 0, .int .i64 0] 33)) ((Below.refl _ _).drew.alloc (Nat.le_refl _) _)
    have l3 := hk ((V.alloc (.cells #[.int .i64 0, .int .i64 0, .int .i64 0] 33)).drew) ((Below.refl _ _).alloc (Nat.le_refl _) _).drew
    have g0' := ((h3.keep ((Below.refl _ _).alloc (Nat.le_refl _) (.cells #[.int .i64 0, .int .i64 0, .int .i64 0] 33)).drew)).cell 0
    have m1' := (h1.keep ((Below.refl _ _).alloc (Nat.le_refl _) (.cells #[.int .i64 0, .int .i64 0, .int .i64 0] 33))).obj.cell 1
    have g0'' := ((h3.keep ((Below.refl _ _).alloc (Nat.le_refl _) (.cells #[.int .i64 0, .int .i64 0, .int .i64 0] 33)))).cell 0
    have hs := h3.lt
    have hs2 := h1.obj.lt
    clear h1 h2 h3 hk hgx
    go_region
    clear m1 g0 l1 l2 l3 g0' m1' g0'' hs hs2
    all_goals
      go_wp2
      go_ret
      rw [HE.out]
      refine ⟨rfl, (H1.out.keep ?_).more, (Fr.of_below H2.out _).same (Fr.of_below ?_ _)⟩
      all_goals exact ((Below.refl _ _).alloc (Nat.le_refl _) _).drew
  | none =>
    have HGT := Lib.hid hgt
    have HE := Lib.hid (show watchP K x = (0, insG keyW x K) by unfold watchP; rw [hgt]; rfl)
    clear hgt
    go_enter Try.func11, Try.ntmps11
    go_upto_region 3 with (fail)
    refine wp_world (fun V => LK w0 V pm b1 b2 n L K ∧ Below W.heap.size W V ∧ Blk V gx 33 #[.int .i64 x.ref, .int .i64 x.fr, .int .i64 x.to]) ⟨HH.out.keep (below_alloc _ _), below_alloc _ _, by rw [← HG.out]; exact Blk.new _ _ _⟩ ?_
    rintro V ⟨h1, h2, h3⟩
    have H1 := Lib.hid h1
    have H2 := Lib.hid h2
    have H3 := Lib.hid h3
    have m1 := h1.obj.cell 1
    have g0 := h3.cell 0
    have hk : ∀ U, Below V.heap.size V U → (Instr.lookup 54 (.map (some b2)) (.int .i64 x.ref) true).run Try.prog U = .ok (.tuple #[.agg #[.int .i64 0, .int .i64 0, .int .i64 0], .bool false]) U := fun U hU => by
      have h9 := (h1.keep hU).w.look HX.out.1
      rw [HGT.out] at h9
      exact h9
    have l1 := hk V.drew (Below.refl _ _).drew
    have l2 := hk (V.drew.alloc (.cells #[.int .i64 0, .int .i64 0, .int .i64 0] 33)) ((Below.refl _ _).drew.alloc (Nat.le_refl _) _)
    have l3 := hk ((V.alloc (.cells #[.int .i64 0, .int .i64 0, .int .i64 0] 33)).drew) ((Below.refl _ _).alloc (Nat.le_refl _) _).drew
    have g0' := ((h3.keep ((Below.refl _ _).alloc (Nat.le_refl _) (.cells #[.int .i64 0, .int .i64 0, .int .i64 0] 33)).drew)).cell 0
    have m1' := (h1.keep ((Below.refl _ _).alloc (Nat.le_refl _) (.cells #[.int .i64 0, .int .i64 0, .int .i64 0] 33))).obj.cell 1
    have g0'' := ((h3.keep ((Below.refl _ _).alloc (Nat.le_refl _) (.cells #[.int .i64 0, .int .i64 0, .int .i64 0] 33)))).cell 0
    have hs := h3.lt
    have hs2 := h1.obj.lt
    clear h1 h2 h3 hk hgx
    go_region
    clear m1 g0 l1 l2 l3 g0' m1' g0'' hs hs2
    all_goals
      go_upto_region 6 with (fail)
      refine wp_world (fun V => LK w0 V pm b1 b2 n L K ∧ Fr (fun k => k = b1 ∨ k = b2) W V ∧ Blk V gx 33 #[.int .i64 x.ref, .int .i64 x.fr, .int .i64 x.to]) ⟨H1.out.keep (((Below.refl _ _).alloc (Nat.le_refl _) _).drew), (Fr.of_below H2.out _).same (Fr.of_below (((Below.refl _ _).alloc (Nat.le_refl _) _).drew) _), H3.out.keep (((Below.refl _ _).alloc (Nat.le_refl _) _).drew)⟩ ?_
      clear H1 H2 H3
      rintro V ⟨h1, h2, h3⟩
      have H1 := Lib.hid h1
      have H2 := Lib.hid h2
      have m1 := h1.obj.cell 1
      have g0 := h3.cell 0
      have g1 := h3.cell 1
      have g2 := h3.cell 2
      clear h1 h2 h3
      go_still_tail 7, (by kernel_rfl)
      refine wpList_world (fun U => LK w0 U pm b1 b2 n L K ∧ Fr (fun k => k = b1 ∨ k = b2) W U) ⟨H1.out.keep (Below.refl _ _).drew, H2.out.drew⟩ ?_
      clear H1 H2 m1 g0 g1 g2
      rintro U ⟨h1, h2⟩
      obtain ⟨w9, hup, hg9, hp9⟩ := h1.w.add (by omega) HX.out.1 HGT.out
      unfold wv at hup
      obtain ⟨k1, k2⟩ := h1.turnW (Nat.le_succ n) hg9 hp9 (h1.lk.addW HX.out HGT.out)
      have HEND := Lib.hid (And.intro k1 (h2.same k2))
      clear h1 h2 hg9 hp9 k1 k2
      go_wp2
      go_ret
      rw [HE.out]
      exact ⟨rfl, HEND.out.1, HEND.out.2⟩
end
end Go.Proofs.Ytpfikhamokjdjaa
