/- Links (layer 18): nil receivers; live. -/
import Derived.Test.YtpfikhamokjdjaaLkT
namespace Go.Proofs.Ytpfikhamokjdjaa
open Go.RowKit Go.Maps Go.WideMaps Go.Shelf Go.Sort
set_option linter.unusedVariables false

section
variable {W : World}
set_option maxHeartbeats 1000000 in
theorem link_nil (a b : Int) (W : World) : Calls Try.prog 10 #[.pointer none, .int .i64 a, .int .i64 b] W fun e w' => e = .returned (.bool false) ∧ Below W.heap.size W w' := by
  have HPV := Lib.hid (pair_v a b)
  go_enter Try.func10, Try.ntmps10
  go_upto_region 2 with (go_at_call 28; refine (HPV.out W).mono ?_; rintro e w1 ⟨rfl, hb1⟩; unfold pv)
  refine wp_world (fun V => Below W.heap.size W V) (below_step hb1 (below_alloc _ _)) ?_
  clear hb1
  rintro V hb
  have HB := Lib.hid hb
  clear hb
  go_quiet (fail)
  go_wp2
  go_ret
  exact ⟨rfl, below_drewN HB.out _⟩
set_option maxHeartbeats 1000000 in
theorem unlink_nil (a b : Int) (W : World) : Calls Try.prog 18 #[.pointer none, .int .i64 a, .int .i64 b] W fun e w' => e = .returned (.bool false) ∧ Below W.heap.size W w' := by
  have HPV := Lib.hid (pair_v a b)
  go_enter Try.func18, Try.ntmps18
  go_upto_region 2 with (go_at_call 28; refine (HPV.out W).mono ?_; rintro e w1 ⟨rfl, hb1⟩; unfold pv)
  refine wp_world (fun V => Below W.heap.size W V) (below_step hb1 (below_alloc _ _)) ?_
  clear hb1
  rintro V hb
  have HB := Lib.hid hb
  clear hb
  go_quiet (fail)
  go_wp2
  go_ret
  exact ⟨rfl, below_drewN HB.out _⟩
theorem of_nil (a : Int) (W : World) : Calls Try.prog 13 #[.pointer none, .int .i64 a] W fun e w' => e = .returned (.slice none 0 0) ∧ W = w' := by
  go_enter Try.func13, Try.ntmps13
  go_wp2
  go_ret
  exact ⟨rfl, rfl⟩
theorem watch_nil (x : WV) (W : World) : Calls Try.prog 11 #[.pointer none, wv x] W fun e w' => e = .returned (.int .i64 7) ∧ Below W.heap.size W w' := by
  unfold wv
  go_enter Try.func11, Try.ntmps11
  go_wp2
  go_ret
  exact ⟨rfl, below_alloc _ _⟩
theorem unwatch_nil (r f : Int) (W : World) : Calls Try.prog 17 #[.pointer none, .int .i64 r, .int .i64 f] W fun e w' => e = .returned (.bool false) ∧ W = w' := by
  go_enter Try.func17, Try.ntmps17
  go_wp2
  go_ret
  exact ⟨rfl, rfl⟩
theorem watches_nil (W : World) : Calls Try.prog 14 #[.pointer none] W fun e w' => e = .returned (.slice none 0 0) ∧ W = w' := by
  go_enter Try.func14, Try.ntmps14
  go_wp2
  go_ret
  exact ⟨rfl, rfl⟩
theorem pairs_nil (W : World) : Calls Try.prog 19 #[.pointer none] W fun e w' => e = .returned (.slice none 0 0) ∧ W = w' := by
  go_enter Try.func19, Try.ntmps19
  go_wp2
  go_ret
  exact ⟨rfl, rfl⟩
theorem drop_nil (a : Int) (W : World) : Calls Try.prog 12 #[.pointer none, .int .i64 a] W fun e w' => e = .returned (.tuple #[.slice none 0 0, .slice none 0 0]) ∧ Below W.heap.size W w' := by
  have HO := Lib.hid (fun V => of_nil a V)
  have HW := Lib.hid watches_nil
  go_enter Try.func12, Try.ntmps12
  go_wp2_with (go_at_call 13; refine (HO.out _).mono ?_; rintro e w' ⟨rfl, rfl⟩)
  refine wp_loop_rounds 1 ?_
  rw [rounds_succ]
  go_wp2_with (go_at_call 14; refine (HW.out _).mono ?_; rintro e w' ⟨rfl, rfl⟩)
  refine wp_loop_rounds 1 ?_
  rw [rounds_succ]
  go_wp2
  go_ret2
  exact ⟨rfl, Below.refl _ _⟩
theorem lnum_v (a : Int) (W : World) : Calls Try.prog 15 #[.int .i64 a] W fun e w' => e = .returned (.int .i64 a) ∧ W = w' := by
  go_enter Try.func15, Try.ntmps15
  go_wp2
  go_ret
  exact ⟨rfl, rfl⟩
end

/-! ### live -/
/-- What a statement's walk shows. -/
def Yes (w : World) (e : Ending) (w' : World) : Prop := e = .returned (.bool true) ∧ Below w.heap.size w w'
def LL1 : PL := [(1, 2)]
def LL2 : PL := insG keyP (1, 3) LL1
def KK1 : WL := [⟨7, 5, 1⟩]
theorem i64s {z : Int} (h : -100 ≤ z ∧ z ≤ 100) : i64ok z := by unfold i64ok; omega
theorem ofP_is {L : PL} {a : Int} {zs : List Int} (hp : (L.filterMap (othP a)).Perm zs) (hs : zs.Pairwise fun x y => x ≤ y) : ofP L a = zs := by
  unfold ofP
  have h9 := List.pairwise_mergeSort (le := fun x y : Int => decide (x ≤ y)) (fun a b c h1 h2 => by simp at *; omega) (fun a b => by simp; omega) (L.filterMap (othP a))
  exact ((List.mergeSort_perm _ _).trans hp).eq_of_pairwise (le := fun x y => x ≤ y) (fun a b _ _ h1 h2 => by omega) (h9.imp fun h => by simpa using h) hs
section
variable {w0 W V : World} {pm b1 b2 n : Nat} {L : PL} {K : WL}
theorem lv1 (h : LK w0 W pm b1 b2 0 [] []) : Calls Try.prog 10 #[.pointer (some ⟨pm, 0, none⟩), .int .i64 1, .int .i64 2] W (LEnd w0 W pm b1 b2 1 (.bool true) LL1 []) := by
  have h9 := link_v h 1 2 (i64s (by omega)) (i64s (by omega)) (by omega)
  rw [show linkP [] 1 2 = (true, LL1) by decide] at h9
  exact h9
theorem lv2 (h : LK w0 W pm b1 b2 1 LL1 []) : Calls Try.prog 10 #[.pointer (some ⟨pm, 0, none⟩), .int .i64 3, .int .i64 1] W (LEnd w0 W pm b1 b2 2 (.bool true) LL2 []) := by
  have h9 := link_v h 3 1 (i64s (by omega)) (i64s (by omega)) (by omega)
  rw [show linkP LL1 3 1 = (true, LL2) by unfold linkP; rw [if_neg (by decide)]; rfl] at h9
  exact h9
theorem lv3 (h : LK w0 W pm b1 b2 2 LL2 []) : Calls Try.prog 11 #[.pointer (some ⟨pm, 0, none⟩), .agg #[.int .i64 7, .int .i64 5, .int .i64 1]] W (LEnd w0 W pm b1 b2 3 (.int .i64 0) LL2 KK1) :=
  watch_v h ⟨7, 5, 1⟩ ⟨i64s (by simp), i64s (by simp), i64s (by simp)⟩ (by omega)
theorem ll2_perm : LL2.Perm [(1, 3), (1, 2)] := insG_perm
theorem lv4 (h : LK w0 W pm b1 b2 3 LL2 KK1) : Calls Try.prog 13 #[.pointer (some ⟨pm, 0, none⟩), .int .i64 1] W (OfEnds W [2, 3]) := by
  have h9 := of_v h 1 (by rw [ll2_perm.length_eq]; simp)
  rw [ofP_is (zs := [2, 3]) ((ll2_perm.filterMap (othP 1)).trans (by decide)) (by simp)] at h9
  exact h9
theorem lv5 (h : LK w0 W pm b1 b2 3 LL2 KK1) : Calls Try.prog 12 #[.pointer (some ⟨pm, 0, none⟩), .int .i64 1] W fun e w' => ∃ v1 A c, e = .returned (.tuple #[v1, .slice A 1 c]) ∧ w'.ownsRow W.heap.size 2 1 v1 ([2, 3] : List Int).length (([2, 3] : List Int).map (Value.int .i64)) ∧
    LK w0 w' pm b1 b2 3 [] [] ∧ Fr (fun k => k = b1 ∨ k = b2) W w' := by
  refine (drop_w h 1 (i64s (by omega)) (by rw [ll2_perm.length_eq]; simp) (by simp [KK1])).mono fun e w' h9 => ?_
  obtain ⟨v1, v2, rfl, h1, h2, h3, h4⟩ := h9
  rw [ofP_is (zs := [2, 3]) ((ll2_perm.filterMap (othP 1)).trans (by decide)) (by simp)] at h1
  have e1 : offP 1 LL2 = [] := by
    unfold offP
    refine List.filter_eq_nil_iff.2 fun p hp => ?_
    have h9 := ll2_perm.mem_iff.1 hp
    simp at h9
    rcases h9 with rfl | rfl <;> simp
  have e2 : onK 1 KK1 = [] := by decide
  have e3 : toldP 1 (wsP KK1) = KK1 := by unfold wsP KK1; rw [List.mergeSort_singleton]; decide
  rw [e1, e2] at h3
  rw [e3] at h2
  obtain ⟨A, c, rfl⟩ := own_slice9 h2
  exact ⟨v1, A, c, rfl, h1, h3, h4⟩
theorem lv6 (a : Int) (h : LK w0 W pm b1 b2 3 [] []) : Calls Try.prog 13 #[.pointer (some ⟨pm, 0, none⟩), .int .i64 a] W fun e w' => ∃ A c, e = .returned (.slice A 0 c) ∧ Below W.heap.size W w' := by
  refine (of_v h a (by simp)).mono fun e w' h9 => ?_
  obtain ⟨v, rfl, h1, h2⟩ := h9
  rw [ofP_is (zs := []) (List.Perm.refl _) (by simp)] at h1
  obtain ⟨A, c, rfl⟩ := own_slice9 h1
  exact ⟨A, c, rfl, h2⟩
theorem lv7 (h : LK w0 W pm b1 b2 3 [] []) : Calls Try.prog 14 #[.pointer (some ⟨pm, 0, none⟩)] W fun e w' => ∃ A c, e = .returned (.slice A 0 c) ∧ Below W.heap.size W w' := by
  refine (watches_w h (by simp)).mono fun e w' h9 => ?_
  obtain ⟨v, rfl, h1, h2⟩ := h9
  rw [show wsP [] = [] from List.mergeSort_nil] at h1
  obtain ⟨A, c, rfl⟩ := own_slice9 h1
  exact ⟨A, c, rfl, h2⟩
theorem rowI_blk2 {W : World} {g : Nat} {a b : Int} (h : Blk W g 2 #[.int .i64 a, .int .i64 b]) : RowI W (.slice (some ⟨g, 0, none⟩) 2 2) [a, b] :=
  ⟨0, rfl, .inr ⟨g, 2, _, rfl, Nat.zero_le _, h, Nat.le_refl _, by unfold maxLen; omega, rfl, rfl⟩⟩
theorem rowI_bel {W V : World} {v : Value} {zs : List Int} (h : RowI W v zs) (hb : Below W.heap.size W V) : RowI V v zs := by
  obtain ⟨b, h⟩ := h
  exact ⟨b, own_bel h hb⟩
theorem rowW_bel {W V : World} {v : Value} {zs : WL} (h : RowW W v zs) (hb : Below W.heap.size W V) : RowW V v zs := by
  obtain ⟨b, h⟩ := h
  exact ⟨b, own_bel h hb⟩
theorem rowP_bel {W V : World} {v : Value} {zs : PL} (h : RowP W v zs) (hb : Below W.heap.size W V) : RowP V v zs := by
  obtain ⟨b, h⟩ := h
  exact ⟨b, own_bel h hb⟩
set_option maxRecDepth 100000 in
set_option maxHeartbeats 2000000 in
theorem live_v (W : World) : Calls Try.prog 8 #[] W fun e w' => e = .returned (.bool true) ∧ Below W.heap.size W w' := by
  have HNUM := Lib.hid (fun a V => lnum_v a V)
  have HNEW := Lib.hid new_v
  go_enter Try.func8, Try.ntmps8
  go_upto_region 4 with (first
    | (go_at_call 9; refine (HNEW.out _).mono ?_; rintro e V0 ⟨pm, b1, b2, rfl, h0⟩; have H0 := Lib.hid h0; clear h0)
    | (go_at_call 10; first
      | ((with_reducible refine (lv1 H0.out).mono ?_); rintro e V1 ⟨rfl, h1, _⟩; have H1 := Lib.hid h1; clear h1)
      | ((with_reducible refine (lv2 H1.out).mono ?_); rintro e V2 ⟨rfl, h2, _⟩; have H2 := Lib.hid h2; clear h2))
    | (go_at_call 11; refine (lv3 H2.out).mono ?_; rintro e V3 ⟨rfl, h3, _⟩; have H3 := Lib.hid h3; clear h3)
    | (go_at_call 15; refine (HNUM.out _ _).mono ?_; rintro e w' ⟨rfl, rfl⟩))
  go_upto_region 5 with (go_at_call 13; refine (lv4 H3.out).mono ?_; rintro e V4 ⟨va, rfl, h4, hb4⟩; have H4 := Lib.hid (H3.out.keep hb4); have R4 := Lib.hid (⟨_, h4⟩ : RowI V4 va [2, 3]); have R4b := Lib.hid h4; clear h4 hb4)
  go_upto_region 6 with (go_at_call 12; refine (lv5 H4.out).mono ?_; rintro e V5 ⟨vb, A5, c5, rfl, h5, h6, h7⟩)
  have R5 := Lib.hid (⟨_, h5⟩ : RowI V5 vb [2, 3])
  have R6 := Lib.hid (⟨_, own_fr9 R4b.out h7 (fun g hg hF => by have h9 := (World.ownsRow.lt R4b.out g hg).1; have := H3.out.hi; omega)⟩ : RowI V5 va [2, 3])
  have H6 := Lib.hid h6
  have HB5 := Lib.hid h6.old
  clear h5 h6 h7
  obtain ⟨gx, hgx⟩ : ∃ gx, V5.heap.size = gx := ⟨_, rfl⟩
  have HA := Lib.hid (below_alloc V5 (.cells #[.int .i64 2, .int .i64 3] 2))
  have HN1 := Lib.hid (numbers_v (rowI_bel R6.out HA.out) (rowI_blk2 (Blk.newAt9 hgx : Blk (V5.alloc (.cells #[.int .i64 2, .int .i64 3] 2)) gx 2 _)) (by simp) (by simp))
  rw [show decide (([2, 3] : List Int) = [2, 3]) = true from rfl] at HN1
  have HN2 := Lib.hid (fun V (h : Below V5.heap.size V5 V) => numbers_v (rowI_bel R5.out h) (rowI_bel R6.out h) (by simp) (by simp))
  rw [show decide (([2, 3] : List Int) = [2, 3]) = true from rfl] at HN2
  go_wp2_with (first
    | (go_at_call 16; first
      | ((with_reducible refine HN1.out.mono ?_); rintro e V6 ⟨rfl, h6⟩; have H7 := Lib.hid (below_step HA.out h6); clear h6)
      | ((with_reducible refine (HN2.out _ H7.out).mono ?_); rintro e V7 ⟨rfl, h6⟩; have H8 := Lib.hid (H7.out.trans (h6.mono H7.out.size)); clear h6))
    | (go_at_call 13; refine (lv6 _ (H6.out.keep H8.out)).mono ?_; rintro e V8 ⟨A9, c9, rfl, h6⟩; have H9 := Lib.hid (H8.out.trans (h6.mono H8.out.size)); clear h6)
    | (go_at_call 14; refine (lv7 (H6.out.keep H9.out)).mono ?_; rintro e V9 ⟨A10, c10, rfl, h6⟩; have H10 := Lib.hid (H9.out.trans (h6.mono H9.out.size)); clear h6))
  go_ret
  exact ⟨rfl, HB5.out.trans (H10.out.mono HB5.out.size)⟩
end
end Go.Proofs.Ytpfikhamokjdjaa
