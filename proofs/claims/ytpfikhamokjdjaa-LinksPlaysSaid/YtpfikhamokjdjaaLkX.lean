/- Links (layer 18): plain facts that the statements want; the acts' loads. -/
import Derived.Test.YtpfikhamokjdjaaLkU
import Derived.Test.YtpfikhamokjdjaaLkV
namespace Go.Proofs.Ytpfikhamokjdjaa
open Go.RowKit Go.Maps Go.WideMaps Go.Shelf Go.Sort
set_option linter.unusedVariables false

theorem pairN_comm (a b : Int) : pairN b a = pairN a b := by unfold pairN; rw [Prod.mk.injEq]; omega
theorem mem_linkP {L : PL} {a b : Int} {p : Int × Int} : p ∈ (linkP L a b).2 ↔ p ∈ L ∨ (a ≠ b ∧ p = pairN a b) := by
  unfold linkP
  split
  · rename_i h
    rcases h with h | h
    · constructor
      · exact .inl
      · rintro (h9 | ⟨h9, _⟩)
        · exact h9
        · exact absurd h h9
    · constructor
      · exact .inl
      · rintro (h9 | ⟨_, rfl⟩)
        · exact h9
        · exact h
  · rename_i h
    have h1 : a ≠ b := fun e => h (.inl e)
    rw [(insG_perm (key := keyP) (x := pairN a b) (L := L)).mem_iff, List.mem_cons]
    constructor
    · rintro (h9 | h9)
      · exact .inr ⟨h1, h9⟩
      · exact .inl h9
    · rintro (h9 | ⟨_, h9⟩)
      · exact .inr h9
      · exact .inl h9
theorem linkP_len {L : PL} {a b : Int} : (linkP L a b).2.length ≤ L.length + 1 := by
  unfold linkP
  split
  · simp
  · simp [insG_len]
theorem linkP_again {L : PL} {a b : Int} : linkP (linkP L a b).2 b a = (false, (linkP L a b).2) := by
  by_cases h : a = b
  · subst h
    unfold linkP
    simp
  · have h9 : pairN b a ∈ (linkP L a b).2 := mem_linkP.2 (.inr ⟨h, pairN_comm a b⟩)
    generalize (linkP L a b).2 = M at h9
    unfold linkP
    rw [if_pos (.inr h9)]
theorem linkP_ne {L : PL} {a b : Int} (h : (linkP L a b).1 = true) : a ≠ b := by
  rintro rfl
  unfold linkP at h
  simp at h
theorem getW_none {K : WL} {r : Int} (h : ∀ x ∈ K, x.ref ≠ r) : getW K r = none := by
  unfold getW getG
  refine List.find?_eq_none.2 fun x hx h9 => h x hx ?_
  simpa [keyW, Lit.sameKey] using h9
theorem watchP_new {K : WL} {x : WV} (h : ∀ y ∈ K, y.ref ≠ x.ref) : watchP K x = (0, insG keyW x K) := by
  unfold watchP
  rw [getW_none h]
  rfl
theorem getW_some {K : WL} {x : WV} (hk : (K.map keyW).Nodup) (hx : x ∈ K) : getW K x.ref = some x := getG_mem keyW_is hk hx
theorem watchP_old {K : WL} {x y : WV} (hk : (K.map keyW).Nodup) (hx : x ∈ K) (e : y.ref = x.ref) : watchP K y = (8, K) := by
  unfold watchP
  rw [e, getW_some hk hx]
  rfl
theorem mem_insW {K : WL} {x y : WV} : y ∈ insG keyW x K ↔ y = x ∨ y ∈ K := by
  rw [(insG_perm (key := keyW) (x := x) (L := K)).mem_iff, List.mem_cons]
theorem refs_ins {K : WL} {k : Nat} {x : WV} (hx : x.ref = (k : Int)) (h : ∀ y ∈ K, y.ref < (k : Int)) : ∀ y ∈ insG keyW x K, y.ref < ((k + 1 : Nat) : Int) := fun y hy => by
  rcases mem_insW.1 hy with rfl | h9
  · omega
  · have := h y h9
    omega
theorem ofP_off {L : PL} {a : Int} : ofP (offP a L) a = [] := by
  refine ofP_is (zs := []) ?_ (by simp)
  have : (offP a L).filterMap (othP a) = [] := by
    refine List.filterMap_eq_nil_iff.2 fun p hp => ?_
    have h9 := (List.mem_filter.1 hp).2
    simp at h9
    unfold othP
    rw [if_neg (fun e => h9.1 e.symm), if_neg (fun e => h9.2 e.symm)]
  rw [this]
theorem told_on {K : WL} {a : Int} : toldP a (wsP (onK a K)) = [] := by
  unfold toldP
  refine List.filter_eq_nil_iff.2 fun x hx => ?_
  have h9 := (List.mem_filter.1 ((wsP_perm _).mem_iff.1 hx)).2
  unfold hitW at h9
  simp at h9
  simpa using h9.1
theorem offP_off {L : PL} {a : Int} : offP a (offP a L) = offP a L := by unfold offP; rw [List.filter_filter]; simp
theorem onK_on {K : WL} {a : Int} : onK a (onK a K) = onK a K := by unfold onK; rw [List.filter_filter]; simp
theorem unlink_off {L : PL} {a z : Int} : unlinkP (offP a L) a z = (false, offP a L) := by
  unfold unlinkP
  rw [if_neg]
  intro h
  have h9 := (List.mem_filter.1 h).2
  simp at h9
  unfold pairN at h9
  simp only at h9
  omega
theorem wsP_ord {K : WL} (h : K.Pairwise fun x y => x.ref ≠ y.ref) : wsOrd (wsP K) := by
  have h1 : (wsP K).Pairwise fun x y => x.ref ≠ y.ref := (wsP_perm K).symm.pairwise h (fun h e => h e.symm)
  exact (h1.and (wsP_sorted K)).imp fun ⟨h2, h3⟩ => by omega
theorem told_mem {K : WL} {a : Int} {x : WV} : x ∈ toldP a (wsP K) ↔ x ∈ K ∧ x.to = a := by
  unfold toldP
  rw [List.mem_filter, (wsP_perm K).mem_iff]
  simp
theorem told_ord {K : WL} {a : Int} (h : K.Pairwise fun x y => x.ref ≠ y.ref) : wsOrd (toldP a (wsP K)) := (wsP_ord h).sublist List.filter_sublist
theorem unwatch_told {K : WL} {a : Int} {x : WV} (h : K.Pairwise fun x y => x.ref ≠ y.ref) (hx : x ∈ toldP a (wsP K)) : unwatchP (onK a K) x.ref x.fr = (false, onK a K) := by
  obtain ⟨h1, h2⟩ := told_mem.1 hx
  have h9 : getW (onK a K) x.ref = none := getW_none fun y hy e => by
    obtain ⟨h3, h4⟩ := List.mem_filter.1 hy
    have := ord_inj (wsP_ord h) ((wsP_perm K).mem_iff.2 h3) ((wsP_perm K).mem_iff.2 h1) e
    subst this
    unfold hitW at h4
    simp [h2] at h4
  unfold unwatchP
  rw [h9]
section
variable {w0 W V : World} {pm b1 b2 n : Nat} {L : PL} {K : WL}
theorem LK.mono (h : LK w0 V pm b1 b2 n L K) {m : Nat} (hm : n ≤ m) : LK w0 V pm b1 b2 m L K := { h with p := h.p.mono hm, w := h.w.mono hm }
theorem LK.fr (h : LK w0 W pm b1 b2 n L K) {F : Nat → Prop} (hf : Fr F W V) (hn : ¬ F pm ∧ ¬ F b1 ∧ ¬ F b2) (hF : ∀ k, F k → w0.heap.size ≤ k) : LK w0 V pm b1 b2 n L K :=
  { h with
    old := h.old.trans (hf.below h.old.size hF)
    obj := hf.blk h.obj hn.1
    p := owns_fr h.p hf hn.2.1
    w := owns_fr h.w hf hn.2.2
    hi := ⟨Nat.lt_of_lt_of_le h.hi.1 hf.size, Nat.lt_of_lt_of_le h.hi.2.1 hf.size, Nat.lt_of_lt_of_le h.hi.2.2 hf.size⟩ }
theorem LK.bel (h : LK w0 W pm b1 b2 n L K) : Below w0.heap.size w0 W := h.old
theorem link_w (h : LK w0 W pm b1 b2 n L K) (a b : Int) (ha : i64ok a) (hb : i64ok b) (hn : n ≤ 99998) {r : Bool} {L' : PL} (e : linkP L a b = (r, L')) :
    Calls Try.prog 10 #[.pointer (some ⟨pm, 0, none⟩), .int .i64 a, .int .i64 b] W (LEnd w0 W pm b1 b2 (n + 1) (.bool r) L' K) := by
  have h9 := link_v h a b ha hb hn
  rw [e] at h9
  exact h9
theorem watch_w (h : LK w0 W pm b1 b2 n L K) (x : WV) (hx : i64ok x.ref ∧ i64ok x.fr ∧ i64ok x.to) (hn : n ≤ 99998) {r : Nat} {K' : WL} (e : watchP K x = (r, K')) :
    Calls Try.prog 11 #[.pointer (some ⟨pm, 0, none⟩), .agg #[.int .i64 x.ref, .int .i64 x.fr, .int .i64 x.to]] W (LEnd w0 W pm b1 b2 (n + 1) (.int .i64 (r : Int)) L K') := by
  have h9 := watch_v h x hx hn
  rw [e] at h9
  exact h9
theorem unlink_w (h : LK w0 W pm b1 b2 n L K) (a b : Int) (ha : i64ok a) (hb : i64ok b) {r : Bool} {L' : PL} (e : unlinkP L a b = (r, L')) :
    Calls Try.prog 18 #[.pointer (some ⟨pm, 0, none⟩), .int .i64 a, .int .i64 b] W (LEnd w0 W pm b1 b2 n (.bool r) L' K) := by
  have h9 := unlink_v (n := n) h a b ha hb
  rw [e] at h9
  exact h9
theorem unwatch_w (h : LK w0 W pm b1 b2 n L K) (r f : Int) (hr : i64ok r) {q : Bool} {K' : WL} (e : unwatchP K r f = (q, K')) :
    Calls Try.prog 17 #[.pointer (some ⟨pm, 0, none⟩), .int .i64 r, .int .i64 f] W (LEnd w0 W pm b1 b2 n (.bool q) L K') := by
  have h9 := unwatch_v (n := n) h r f hr
  rw [e] at h9
  exact h9
end
end Go.Proofs.Ytpfikhamokjdjaa
