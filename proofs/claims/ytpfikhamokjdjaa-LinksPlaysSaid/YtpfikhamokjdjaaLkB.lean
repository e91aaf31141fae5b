/- Links (layer 18): the object in memory; New, pair, Link, Unlink. -/
import Derived.Test.YtpfikhamokjdjaaLkA
import Derived.Test.YtpfikhamokjdjaaOrd
import Derived.Deep.QuietTactic
import Derived.BigQuiet
import Derived.Outline
import Derived.Deep.Cut
import Derived.IntWalk
import Derived.StillTailTactics
import Derived.Deep.DeepMust
import Derived.Deep.RegionHeld3
namespace Go.Proofs.Ytpfikhamokjdjaa
open Go.RowKit Go.Maps Go.WideMaps
set_option linter.unusedVariables false

def pairN (a b : Int) : Int × Int := (min a b, max a b)
/-- A plain state of links: lesser ones first, each once. -/
structure LOk (L : PL) (K : WL) : Prop where
  ok : ∀ p ∈ L, p.1 < p.2 ∧ i64ok p.1 ∧ i64ok p.2
  nd : L.Nodup
  kok : ∀ x ∈ K, i64ok x.ref ∧ i64ok x.fr ∧ i64ok x.to
  knd : K.Pairwise fun x y => x.ref ≠ y.ref
theorem hasP_iff {L : PL} (h : ∀ p ∈ L, p.1 < p.2 ∧ i64ok p.1 ∧ i64ok p.2) {p : Int × Int} (h1 : i64ok p.1) (h2 : i64ok p.2) : hasP L p = true ↔ p ∈ L := by
  unfold hasP hasG
  rw [List.any_eq_true]
  constructor
  · rintro ⟨q, hq, hs⟩
    have e : keyP q = keyP p := by
      unfold keyP at hs ⊢
      simp only [Lit.sameKey, beq_iff_eq] at hs
      rw [hs]
    obtain ⟨_, q1, q2⟩ := h q hq
    rw [← keyP_inj q1 q2 h1 h2 e]
    exact hq
  · intro hp
    exact ⟨p, hp, by unfold keyP; simp [Lit.sameKey]⟩
structure LK (w0 W : World) (pm b1 b2 n : Nat) (L : PL) (K : WL) : Prop where
  old : Below w0.heap.size w0 W
  obj : Blk W pm 56 #[.map (some b1), .map (some b2)]
  p : PM W b1 n L
  w : WM W b2 n K
  ne : b1 ≠ b2 ∧ pm ≠ b1 ∧ pm ≠ b2
  lo : w0.heap.size ≤ pm ∧ w0.heap.size ≤ b1 ∧ w0.heap.size ≤ b2
  hi : pm < W.heap.size ∧ b1 < W.heap.size ∧ b2 < W.heap.size
  lk : LOk L K
section
variable {w0 W V : World} {pm b1 b2 n : Nat} {L : PL} {K : WL}
theorem PM.mono (h : PM W b1 n L) {m : Nat} (hm : n ≤ m) : PM W b1 m L := by
  obtain ⟨es, clock, hb, F, hs, hD⟩ := h
  exact ⟨es, clock, hb, F, Nat.le_trans hs hm, hD⟩
theorem WM.mono (h : WM W b1 n K) {m : Nat} (hm : n ≤ m) : WM W b1 m K := by
  obtain ⟨es, clock, hb, F, hs, hD⟩ := h
  exact ⟨es, clock, hb, F, Nat.le_trans hs hm, hD⟩
theorem LK.keep (h : LK w0 W pm b1 b2 n L K) (hb : Below W.heap.size W V) : LK w0 V pm b1 b2 n L K :=
  { h with
    old := h.old.trans (hb.mono h.old.size)
    obj := h.obj.keep hb
    p := h.p.grown (grown_of_below hb none) (by simp)
    w := h.w.grown (grown_of_below hb none) (by simp)
    hi := ⟨Nat.lt_of_lt_of_le h.hi.1 hb.size, Nat.lt_of_lt_of_le h.hi.2.1 hb.size, Nat.lt_of_lt_of_le h.hi.2.2 hb.size⟩ }
set_option maxHeartbeats 1000000 in
theorem pair_v (a b : Int) (W : World) : Calls Try.prog 28 #[.int .i64 a, .int .i64 b] W fun e w' => e = .returned (pv (pairN a b)) ∧ Below W.heap.size W w' := by
  rcases Int.lt_trichotomy a b with h | rfl | h
  · have HE := Lib.hid (show pairN a b = (a, b) by unfold pairN; rw [Int.min_eq_left (by omega), Int.max_eq_right (by omega)])
    go_enter Try.func28, Try.ntmps28
    go_wp2
    all_goals first | (exfalso; omega) | skip
    refine bodyPost_ret (v := .agg #[.int .i64 a, .int .i64 b]) (by simp [results, Try.results28, go_sem]) rfl ?_
    rw [HE.out]
    exact ⟨rfl, below_alloc _ _⟩
  · have HE := Lib.hid (show pairN a a = (a, a) by unfold pairN; rw [Int.min_eq_left (by omega), Int.max_eq_right (by omega)])
    go_enter Try.func28, Try.ntmps28
    go_wp2
    all_goals first | (exfalso; omega) | skip
    all_goals
      refine bodyPost_ret (v := .agg #[.int .i64 a, .int .i64 a]) (by simp [results, Try.results28, go_sem]) rfl ?_
      rw [HE.out]
      exact ⟨rfl, below_alloc _ _⟩
  · have HE := Lib.hid (show pairN a b = (b, a) by unfold pairN; rw [Int.min_eq_right (by omega), Int.max_eq_left (by omega)])
    go_enter Try.func28, Try.ntmps28
    go_wp2
    all_goals first | (exfalso; omega) | skip
    refine bodyPost_ret (v := .agg #[.int .i64 b, .int .i64 a]) (by simp [results, Try.results28, go_sem]) rfl ?_
    rw [HE.out]
    exact ⟨rfl, below_alloc _ _⟩
set_option maxHeartbeats 1000000 in
theorem new_v (W : World) : Calls Try.prog 9 #[] W fun e w' => ∃ pm b1 b2, e = .returned (.pointer (some ⟨pm, 0, none⟩)) ∧ LK W w' pm b1 b2 0 [] [] := by
  have hmm := @run_makeMap Try.prog
  go_enter Try.func9, Try.ntmps9
  go_wp2
  refine bodyPost_ret (v := .pointer (some ⟨W.heap.size + 2, 0, none⟩)) (by simp [results, Try.results9, go_sem]) rfl ?_
  have hP : PM (W.alloc (.map #[] 0)) W.heap.size 0 [] := World.ownsMap_made W Try.prog 45 (plainElem (H := Unit) Try.prog 4)
  have hW : WM ((W.alloc (.map #[] 0)).alloc (.map #[] 0)) (W.alloc (.map #[] 0)).heap.size 0 [] := World.ownsMap_made (W.alloc (.map #[] 0)) Try.prog 2 wR
  have e1 : (W.alloc (.map #[] 0)).heap.size = W.heap.size + 1 := by simp
  have e2 : ((W.alloc (.map #[] 0)).alloc (.map #[] 0)).heap.size = W.heap.size + 2 := by simp
  rw [e1] at hW
  have hb := below_step (below_step (below_alloc W (.map #[] 0)) (below_alloc _ (.map #[] 0))) (below_alloc _ (.cells #[.map (some W.heap.size), .map (some (W.heap.size + 1))] 56))
  refine ⟨W.heap.size + 2, W.heap.size, W.heap.size + 1, rfl, ?_⟩
  exact {
    old := hb
    obj := by
      have := Blk.new ((W.alloc (.map #[] 0)).alloc (.map #[] 0)) 56 #[.map (some W.heap.size), .map (some (W.heap.size + 1))]
      rw [e2] at this
      exact this
    p := (hP.grown (grown_of_below (below_alloc _ _) none) (by simp)).grown (grown_of_below (below_alloc _ _) none) (by simp)
    w := hW.grown (grown_of_below (below_alloc _ _) none) (by simp)
    ne := ⟨by omega, by omega, by omega⟩
    lo := ⟨by omega, by omega, by omega⟩
    hi := ⟨by simp, by simp; omega, by simp⟩
    lk := ⟨fun p hp => (by cases hp), List.Pairwise.nil, fun x hx => (by cases hx), List.Pairwise.nil⟩ }
end
end Go.Proofs.Ytpfikhamokjdjaa
