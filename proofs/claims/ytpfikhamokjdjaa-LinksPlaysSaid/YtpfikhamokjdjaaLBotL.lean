/- LinksBoth: plain facts. -/
import Derived.Test.YtpfikhamokjdjaaLOrdL
namespace Go.Proofs.Ytpfikhamokjdjaa
open Go.RowKit
set_option linter.unusedVariables false
theorem mem_ofP_iff {L : PL} {K : WL} (h : LOk L K) {a z : Int} : z ∈ ofP L a ↔ a ≠ z ∧ pairN a z ∈ L := by
  rw [mem_ofP]
  constructor
  · rintro ⟨p, hp, ho⟩
    obtain ⟨h1, _⟩ := h.ok p hp
    obtain ⟨e1, e2⟩ := pairN_self h1
    unfold othP at ho
    split at ho
    · rename_i e
      cases ho
      exact ⟨by omega, by rw [e, e1]; exact hp⟩
    · split at ho
      · rename_i e
        cases ho
        exact ⟨by omega, by rw [e, e2]; exact hp⟩
      · cases ho
  · rintro ⟨h1, h2⟩
    refine ⟨_, h2, ?_⟩
    unfold othP pairN
    simp only
    rcases Int.lt_or_gt_of_ne h1 with h3 | h3
    · rw [if_pos (by omega)]
      congr 1
      omega
    · rw [if_neg (by omega), if_pos (by omega)]
      congr 1
      omega
theorem ofP_both {L : PL} {K : WL} (h : LOk L K) {a z : Int} (hz : z ∈ ofP L a) : a ∈ ofP L z := by
  obtain ⟨h1, h2⟩ := (mem_ofP_iff h).1 hz
  exact (mem_ofP_iff h).2 ⟨fun e => h1 e.symm, by rw [pairN_comm]; exact h2⟩
theorem ofP_ne {L : PL} {K : WL} (h : LOk L K) {a z : Int} (hz : z ∈ ofP L a) : z ≠ a := fun e => ((mem_ofP_iff h).1 hz).1 e.symm
theorem ofP_who {L : PL} {K : WL} (h : LOk L K) {a z who : Int} (hz : z ∈ ofP (offP who L) a) : z ≠ who ∧ a ≠ who := by
  obtain ⟨p, hp, ho⟩ := mem_ofP.1 hz
  have h9 := (List.mem_filter.1 hp).2
  simp at h9
  unfold othP at ho
  split at ho
  · rename_i e
    cases ho
    exact ⟨h9.2, by rw [e]; exact h9.1⟩
  · split at ho
    · rename_i e
      cases ho
      exact ⟨h9.1, by rw [e]; exact h9.2⟩
    · cases ho
theorem othP_inj {a : Int} {p q : Int × Int} {z : Int} (hp : p.1 < p.2) (hq : q.1 < q.2) (h1 : othP a p = some z) (h2 : othP a q = some z) : p = q := by
  obtain ⟨p1, p2⟩ := p
  obtain ⟨q1, q2⟩ := q
  unfold othP at *
  simp only at *
  split at h1
  · split at h2
    · cases h1; cases h2; simp_all
    · split at h2
      · cases h1; cases h2; simp_all; omega
      · cases h2
  · split at h1
    · split at h2
      · cases h1; cases h2; simp_all; omega
      · split at h2
        · cases h1; cases h2; simp_all
        · cases h2
    · cases h1
theorem ofP_lt {L : PL} {K : WL} (h : LOk L K) (a : Int) : (ofP L a).Pairwise fun x y => x < y := by
  have h1 : (L.filterMap (othP a)).Nodup := by
    have key : ∀ M : PL, M.Nodup → (∀ p ∈ M, p.1 < p.2) → (M.filterMap (othP a)).Nodup := fun M => by
      induction M with
      | nil => intro _ _; exact List.nodup_nil
      | cons p r ih =>
        intro hn ho
        rw [List.nodup_cons] at hn
        have ihr := ih hn.2 (fun q hq => ho q (List.mem_cons_of_mem _ hq))
        cases hp : othP a p with
        | none => rw [List.filterMap_cons_none hp]; exact ihr
        | some z =>
          rw [List.filterMap_cons_some hp, List.nodup_cons]
          refine ⟨fun hz => ?_, ihr⟩
          obtain ⟨q, hq, hz⟩ := List.mem_filterMap.1 hz
          have := othP_inj (ho p (by simp)) (ho q (List.mem_cons_of_mem _ hq)) hp hz
          subst this
          exact hn.1 hq
    exact key L h.nd (fun p hp => (h.ok p hp).1)
  have h2 : (ofP L a).Nodup := (List.mergeSort_perm _ _).nodup_iff.2 h1
  have h3 : (ofP L a).Pairwise fun x y => x ≤ y := by
    have h9 := List.pairwise_mergeSort (le := fun x y : Int => decide (x ≤ y)) (fun a b c h1 h2 => by simp at *; omega) (fun a b => by simp; omega) (L.filterMap (othP a))
    exact h9.imp fun h8 => by simpa using h8
  exact (List.Pairwise.and h2 h3).imp fun ⟨h4, h5⟩ => by
    have : _ ≠ _ := h4
    omega
theorem watchP_ref {K : WL} {x : WV} : (watchP K x).2.length ≤ K.length + 1 := by
  unfold watchP
  split
  · simp
  · rw [insG_len]; exact Nat.le_refl _
theorem off_ok {L : PL} {K : WL} (h : LOk L K) (a : Int) : LOk (offP a L) (onK a K) := ⟨fun p hp => h.ok p (List.mem_filter.1 hp).1, h.nd.filter _, fun x hx => h.kok x (List.mem_filter.1 hx).1, h.knd.sublist List.filter_sublist⟩
theorem onK_mem {K : WL} {a : Int} {x : WV} (h : x ∈ wsP (onK a K)) : x.to ≠ a ∧ x.fr ≠ a := by
  have h9 := (List.mem_filter.1 ((wsP_perm _).mem_iff.1 h)).2
  unfold hitW at h9
  simpa using h9
theorem mem_take_s {bs : List Int} {j : Nat} {z : Int} (h : j < bs.length) : decide (z ∈ bs.take (j + 1)) = (decide (z ∈ bs.take j) || (bs[j] == z)) := by
  rw [take_s bs j h, Bool.eq_iff_iff]
  simp only [decide_eq_true_eq, List.mem_append, List.mem_singleton, Bool.or_eq_true, beq_iff_eq]
  constructor
  · rintro (h | h)
    · exact .inl h
    · exact .inr h.symm
  · rintro (h | h)
    · exact .inl h
    · exact .inr h.symm
def allZ (l : List ActL) : List Int := l.flatMap fun x => [x.a, x.b]
theorem allZ_snoc (l : List ActL) (x : ActL) : allZ (l ++ [x]) = allZ l ++ [x.a, x.b] := by unfold allZ; rw [List.flatMap_append]; simp
theorem allZ_len (l : List ActL) : (allZ l).length = 2 * l.length := by
  unfold allZ
  induction l with
  | nil => rfl
  | cons x r ih => rw [List.flatMap_cons, List.length_append, ih, List.length_cons]; simp; omega
theorem allZ_ok {l : List ActL} (h : ∀ a ∈ l, a.Ok) : ∀ z ∈ allZ l, i64ok z := fun z hz => by
  unfold allZ at hz
  obtain ⟨x, hx, h9⟩ := List.mem_flatMap.1 hz
  simp at h9
  rcases h9 with rfl | rfl
  · exact (h x hx).a
  · exact (h x hx).b
structure BotR (W V0 : World) (pm b1 b2 : Nat) (l : List ActL) (k : Nat) (L : PL) (K : WL) (u : Value) (wr : World) : Prop where
  lk : LK W wr pm b1 b2 k L K
  row : wr.ownsRow V0.heap.size 2 1 u (2 * k) ((allZ (l.take k)).map (Value.int .i64))
  n : L.length ≤ k ∧ K.length ≤ k
  hi : pm < V0.heap.size ∧ b1 < V0.heap.size ∧ b2 < V0.heap.size ∧ W.heap.size ≤ V0.heap.size ∧ V0.heap.size ≤ wr.heap.size
section
variable {W V0 wr U V w3 : World} {pm b1 b2 k n : Nat} {l : List ActL} {L L' : PL} {K K' : WL} {u u' : Value} {x : ActL}
/-- A call of the object's. -/
theorem BotR.call (h : BotR W V0 pm b1 b2 l k L K u wr) (hf : Fr (fun k => k = b1 ∨ k = b2) wr U) : U.ownsRow V0.heap.size 2 1 u (2 * k) ((allZ (l.take k)).map (Value.int .i64)) ∧ V0.heap.size ≤ U.heap.size :=
  ⟨own_fr9 h.row hf (fun g hg hF => by have h9 := (World.ownsRow.lt h.row g hg).1; have := h.hi; omega), Nat.le_trans h.hi.2.2.2.2 hf.size⟩
theorem BotR.app (h : BotR W V0 pm b1 b2 l k L K u wr) (hl : k < l.length) (hx : l[k] = x) (hu : LK W U pm b1 b2 (k + 1) L' K') (hr : U.ownsRow V0.heap.size 2 1 u (2 * k) ((allZ (l.take k)).map (Value.int .i64))) (hL : L'.length ≤ k + 1) (hK : K'.length ≤ k + 1) (hb : Below U.heap.size U V) (hz : V0.heap.size ≤ U.heap.size)
    (ho : w3.ownsRow V0.heap.size 2 1 u' (2 * k + 2) ((allZ (l.take k)).map (Value.int .i64) ++ [.int .i64 x.a, .int .i64 x.b])) (hg : V.grownBy w3 u.ownBlock) : BotR W V0 pm b1 b2 l (k + 1) L' K' u' w3 := by
  have hrb : ∀ j, u.ownBlock = some j → V0.heap.size ≤ j := fun j e => (World.ownsRow.lt hr j e).1
  have h1 := h.hi
  refine ⟨(hu.keep hb).grown hg (fun j e => by have := hrb j e; omega), ?_, ⟨hL, hK⟩, h1.1, h1.2.1, h1.2.2.1, h1.2.2.2.1, Nat.le_trans hz (Nat.le_trans hb.size hg.size)⟩
  rw [take_s l k hl, hx, allZ_snoc, List.map_append]
  exact ho
end
end Go.Proofs.Ytpfikhamokjdjaa
