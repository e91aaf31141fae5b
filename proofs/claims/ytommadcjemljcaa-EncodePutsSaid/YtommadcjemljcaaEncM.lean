/- Layer 8: what lay keeps while it lays a term; a number, two, an int, a text laid behind a row of the call's own. -/
import Derived.Test.YtommadcjemljcaaEncL
import Derived.Test.YtommadcjemljcaaEncA
import Derived.Test.YtommadcjemljcaaRefG
import Derived.Test.YtommadcjemljcaaTermK
import Derived.Test.YtommadcjemljcaaOrd
namespace Go.Proofs.Ytommadcjemljcaa
open Go.RowKit
set_option linter.unusedVariables false

/-- Bytes under way, the term's box. -/
structure LS (base : Nat) (W V : World) (v0 v : Value) (l : List UInt8) (cs : List Value) : Prop where
  own : V.ownsRow base 5 1 v l.length (l.map bv)
  gr : Grow W V v0 v
  box : Blk V W.heap.size 39 cs.toArray
  base_ : base ≤ W.heap.size
theorem own_ntag {W : World} {base n e t g size : Nat} {v : Value} {xs : List Value} {cs : Array Value} (h : W.ownsRow base e size v n xs) (hB : Blk W g t cs) (ht : t ≠ e) : v.ownBlock ≠ some g := fun hg => by
  rcases h.2 with ⟨hv, _⟩ | ⟨g', cap', cur, hv, _, hh, _⟩
  · rw [hv] at hg; cases hg
  · rw [hv] at hg
    obtain rfl : g' = g := by simpa [Value.ownBlock] using hg
    unfold Blk at hB
    rw [hB] at hh
    injection hh with hh
    injection hh with _ hh _
    exact ht hh
section
variable {base : Nat} {W V V' : World} {v0 v v' : Value} {l m : List UInt8} {cs : List Value}
theorem LS.start (h : W.ownsRow base 5 1 v l.length (l.map bv)) (hb : base ≤ W.heap.size) (cs : List Value) : LS base W (W.alloc (.cells cs.toArray 39)) v v l cs :=
  ⟨h.alloc _, (Grow.refl W v).alloc _, Blk.new _ _ _, hb⟩
theorem LS.app (h : LS base W V v0 v l cs) (ho : V'.ownsRow base 5 1 v' (l ++ m).length ((l ++ m).map bv)) (hg : V.grownBy V' v.ownBlock) (hw : v'.ownBlock = v.ownBlock ∨ v'.ownBlock = some V.heap.size) : LS base W V' v0 v' (l ++ m) cs :=
  ⟨ho, h.gr.trans (Grow.of hg hw), h.box.grown hg (Ne.symm (own_ntag h.own h.box (by decide))), h.base_⟩
theorem LS.fresh (h : LS base W V v0 v l cs) (hm : m ≠ []) (ho : V'.ownsRow V.heap.size 5 1 v' (l ++ m).length ((l ++ m).map bv)) (hb : Below V.heap.size V V') : LS base W V' v0 v' (l ++ m) cs := by
  refine ⟨own_lower ho (by have := h.gr.gr.size; have := h.base_; omega), h.gr.trans ⟨grown_of_below hb _, ?_⟩, h.box.keep hb, h.base_⟩
  rcases ho.2 with ⟨_, hn⟩ | ⟨g, cap, cur, rfl, hg, _⟩
  · simp at hn; exact absurd hn.2 hm
  · exact .inr ⟨g, rfl, hg⟩
theorem LS.keep (h : LS base W V v0 v l cs) (hb : Below V.heap.size V V') : LS base W V' v0 v l cs := by
  refine ⟨own_far h.own hb, h.gr.trans ⟨grown_of_below hb _, .inl rfl⟩, h.box.keep hb, h.base_⟩
theorem LS.form (h : LS base W V v0 v l cs) : ∃ A c, v = .slice A l.length c ∧ Rd V A l ∧ l.length ≤ c ∧ c ≤ 9223372036854775807 := by
  obtain ⟨A, c, hv, hr, _, hc⟩ := own_rd h.own
  refine ⟨A, c, hv, hr, hc, ?_⟩
  rcases h.own.2 with ⟨hv2, _⟩ | ⟨g, cap, cur, hv2, _, _, _, h10, _⟩
  · rw [hv] at hv2
    have := (Value.slice.inj hv2).2.2; omega
  · rw [hv] at hv2
    have := (Value.slice.inj hv2).2.2; unfold maxLen at h10; omega
theorem LS.bel (h : LS base W V v0 v l cs) {n : Nat} {xs : List Value} (h0 : W.ownsRow base 5 1 v0 n xs) : Below base W V := h.gr.below h.base_ h0

def LayOut (base : Nat) (W : World) (v0 : Value) (l : List UInt8) (cs : List Value) (r : Ending) (w' : World) : Prop := ∃ A c, r = .returned (.slice A l.length c) ∧ LS base W w' v0 (.slice A l.length c) l cs
theorem lay_out (h : LS base W V' v0 v l cs) {r : Ending} (hr : r = .returned v) : LayOut base W v0 l cs r V' := by
  obtain ⟨A, c, rfl, _⟩ := h.form
  exact ⟨A, c, hr, h⟩
theorem rdk_new (V : World) (k : IntKind) (t : TypeId) (xs : List Int) (cs : Array Value) (hcs : cs = (xs.map (Value.int k)).toArray) : RdK k (V.alloc (.cells cs t)) (some ⟨V.heap.size, 0, none⟩) xs := by
  subst hcs
  refine .inr ⟨_, _, rfl, fun j hj => ?_⟩
  rw [Nat.zero_add, (Blk.new V t _).cell]
  simp [hj]
theorem laidB_ne (n m : Nat) : laidB n m ≠ [] := by simp [laidB]
theorem laidI_ne (z : Int) : laidI z ≠ [] := by unfold laidI; split <;> exact laidB_ne _ _
theorem laidS_ne (s : List UInt8) : laidS s ≠ [] := by simp [laidS, laidB]

/-- A number. -/
theorem ls_num (h : LS base W V v0 v l cs) (n : Nat) (hn : n < 18446744073709551616) (hl : l.length + 18 ≤ 140737488355328) :
    Calls Try.prog 19 #[v, .slice (some ⟨V.heap.size, 0, none⟩) 1 1] (V.alloc (.cells #[.int .u64 (n : Int)] 46)) (LayOut base W v0 (l ++ laidB n 0) cs) := by
  have h1 := h.keep (below_alloc V (.cells #[.int .u64 (n : Int)] 46))
  obtain ⟨A, c, rfl, hr, hc, hcm⟩ := h1.form
  refine (num_own A (some ⟨V.heap.size, 0, none⟩) l [n] l.length c 1 1 _ rfl rfl hc hcm hr (rdk_new V .u64 _ _ _ rfl) (by simpa using hn) (by omega) (by omega)).mono fun r w' ⟨v', hr', ho, hb⟩ => ?_
  rw [show laidL [n] = laidB n 0 by simp [laidL]] at ho
  exact lay_out (h1.fresh (laidB_ne _ _) ho hb) hr'
/-- Two numbers. -/
theorem ls_num2 (h : LS base W V v0 v l cs) (n m : Nat) (hn : n < 18446744073709551616) (hm : m < 18446744073709551616) (hl : l.length + 18 ≤ 140737488355328) :
    Calls Try.prog 19 #[v, .slice (some ⟨V.heap.size, 0, none⟩) 2 2] (V.alloc (.cells #[.int .u64 (n : Int), .int .u64 (m : Int)] 46)) (LayOut base W v0 (l ++ (laidB n 0 ++ laidB m 0)) cs) := by
  have h1 := h.keep (below_alloc V (.cells #[.int .u64 (n : Int), .int .u64 (m : Int)] 46))
  obtain ⟨A, c, rfl, hr, hc, hcm⟩ := h1.form
  refine (num_own A (some ⟨V.heap.size, 0, none⟩) l [n, m] l.length c 2 2 _ rfl rfl hc hcm hr (rdk_new V .u64 _ _ _ rfl) (by simp; omega) (by omega) (by omega)).mono fun r w' ⟨v', hr', ho, hb⟩ => ?_
  rw [show laidL [n, m] = laidB n 0 ++ laidB m 0 by simp [laidL]] at ho
  exact lay_out (h1.fresh (by simp [laidB_ne]) ho hb) hr'
/-- An int. -/
theorem ls_int (h : LS base W V v0 v l cs) (z : Int) (h1 : -9223372036854775808 ≤ z) (h2 : z ≤ 9223372036854775807) (hl : l.length + 18 ≤ 140737488355328) :
    Calls Try.prog 42 #[v, .slice (some ⟨V.heap.size, 0, none⟩) 1 1] (V.alloc (.cells #[.int .i64 z] 2)) (LayOut base W v0 (l ++ laidI z) cs) := by
  have h3 := h.keep (below_alloc V (.cells #[.int .i64 z] 2))
  obtain ⟨A, c, rfl, hr, hc, hcm⟩ := h3.form
  refine (int_own A (some ⟨V.heap.size, 0, none⟩) l [z] l.length c 1 1 _ rfl rfl hc hcm hr (rdk_new V .i64 _ _ _ rfl) (by simp; omega) (by omega) (by omega)).mono fun r w' ⟨v', hr', ho, hb⟩ => ?_
  rw [show laidIs [z] = laidI z by simp [laidIs]] at ho
  exact lay_out (h3.fresh (laidI_ne _) ho hb) hr'
/-- A text. -/
theorem ls_str (h : LS base W V v0 v l cs) (s : List UInt8) (hs : s.length ≤ 1000) (hl : l.length + 1018 ≤ 140737488355328) :
    Calls Try.prog 43 #[v, .slice (some ⟨V.heap.size, 0, none⟩) 1 1] (V.alloc (.cells #[.string ⟨s.toArray⟩] 9)) (LayOut base W v0 (l ++ laidS s) cs) := by
  have h3 := h.keep (below_alloc V (.cells #[.string ⟨s.toArray⟩] 9))
  obtain ⟨A, c, rfl, hr, hc, hcm⟩ := h3.form
  refine (str_own A (some ⟨V.heap.size, 0, none⟩) l [s] l.length c 1 1 _ rfl rfl hc hcm hr (.inr ⟨_, _, rfl, fun j hj => ?_⟩) (by omega) (by simp [textSum]; omega)).mono fun r w' ⟨v', hr', ho, hb⟩ => ?_
  · rw [Nat.zero_add, (Blk.new V _ _).cell]
    simp only [List.length_cons, List.length_nil] at hj
    obtain rfl : j = 0 := by omega
    rfl
  rw [show laidSs [s] = laidS s by simp [laidSs]] at ho
  exact lay_out (h3.fresh (laidS_ne _) ho hb) hr'
end
end Go.Proofs.Ytommadcjemljcaa
