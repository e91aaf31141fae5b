/- Links (layer 18): the document's sorted lists: where a member stands or would stand. No program is named here. -/
import Derived.Test.YtpfikhamokjdjaaLBotL
namespace Go.Proofs.Ytpfikhamokjdjaa
open Go.RowKit
set_option linter.unusedVariables false
section
variable {α : Type} {f : α → Bool} {P : List α}
def cutN (f : α → Bool) (P : List α) : Nat := (P.takeWhile f).length
theorem cut_le : cutN f P ≤ P.length := (List.takeWhile_sublist f).length_le
theorem cut_take : P.take (cutN f P) = P.takeWhile f := by
  have h := List.takeWhile_append_dropWhile (p := f) (l := P)
  conv => lhs; arg 2; rw [← h]
  unfold cutN
  exact List.take_left' rfl
theorem cut_drop : P.drop (cutN f P) = P.dropWhile f := by
  have h := List.takeWhile_append_dropWhile (p := f) (l := P)
  conv => lhs; arg 2; rw [← h]
  unfold cutN
  exact List.drop_left' rfl
theorem cut_lt {k : Nat} (hk : k < cutN f P) : ∃ h : k < P.length, f P[k] = true := by
  have h1 : k < P.length := Nat.lt_of_lt_of_le hk cut_le
  refine ⟨h1, ?_⟩
  have h2 : P[k] ∈ P.takeWhile f := by
    rw [← cut_take]
    exact List.mem_take_iff_getElem.2 ⟨k, by omega, rfl⟩
  exact List.all_eq_true.1 List.all_takeWhile _ h2
theorem cut_at (h : cutN f P < P.length) : f P[cutN f P] = false := by
  have h1 := (cut_drop (f := f) (P := P)).symm.trans (List.drop_eq_getElem_cons h)
  have hne : P.dropWhile f ≠ [] := by rw [h1]; exact List.cons_ne_nil _ _
  have h2 := List.head_dropWhile_not f hne
  simp only [h1, List.head_cons] at h2
  cases h9 : f (P[cutN f P]'h) with
  | false => rfl
  | true => exact absurd h9 (by simpa using h2)
end
section
variable {α : Type} {R : α → α → Prop} {P : List α} {p : α} {f : α → Bool}
theorem cut_not (hf : ∀ y, f y = true ↔ R y p) (tr : ∀ {x y z}, R x y → R y z → R x z) (hs : P.Pairwise R) : ∀ y ∈ P.drop (cutN f P), ¬ R y p := by
  intro y hy
  by_cases h : cutN f P < P.length
  · have h1 := cut_at h
    rw [List.drop_eq_getElem_cons h] at hy
    have h2 : ¬ R P[cutN f P] p := fun h9 => by rw [(hf _).2 h9] at h1; cases h1
    rcases List.mem_cons.1 hy with rfl | hy
    · exact h2
    · have h3 : (P[cutN f P] :: P.drop (cutN f P + 1)).Pairwise R := by rw [← List.drop_eq_getElem_cons h]; exact hs.sublist (List.drop_sublist _ _)
      exact fun h9 => h2 (tr ((List.pairwise_cons.1 h3).1 y hy) h9)
  · rw [List.drop_of_length_le (by omega)] at hy
    cases hy
theorem cut_ins (hf : ∀ y, f y = true ↔ R y p) (tr : ∀ {x y z}, R x y → R y z → R x z) (hs : P.Pairwise R) (ht : ∀ y ∈ P, R y p ∨ R p y) : (P.take (cutN f P) ++ [p] ++ P.drop (cutN f P)).Pairwise R := by
  have h1 := cut_not hf tr hs
  have hsp : (P.take (cutN f P) ++ P.drop (cutN f P)).Pairwise R := by rw [List.take_append_drop]; exact hs
  obtain ⟨s1, s2, s3⟩ := List.pairwise_append.1 hsp
  have a1 : ∀ y ∈ P.take (cutN f P), R y p := fun y hy => by
    rw [cut_take] at hy
    exact (hf y).1 (List.all_eq_true.1 List.all_takeWhile _ hy)
  have a2 : ∀ y ∈ P.drop (cutN f P), R p y := fun y hy => (ht y (List.mem_of_mem_drop hy)).resolve_left (h1 y hy)
  refine List.pairwise_append.2 ⟨List.pairwise_append.2 ⟨s1, List.pairwise_singleton _ _, fun x hx y hy => ?_⟩, s2, fun x hx y hy => ?_⟩
  · rw [List.mem_singleton] at hy
    subst hy
    exact a1 x hx
  · rcases List.mem_append.1 hx with hx | hx
    · exact s3 x hx y hy
    · rw [List.mem_singleton] at hx
      subst hx
      exact a2 y hy
theorem cut_mem (hf : ∀ y, f y = true ↔ R y p) (irr : ∀ x, ¬ R x x) (hs : P.Pairwise R) (hp : p ∈ P) : ∃ h : cutN f P < P.length, P[cutN f P] = p := by
  have h1 : p ∈ P.drop (cutN f P) := by
    rw [← List.take_append_drop (cutN f P) P] at hp
    rcases List.mem_append.1 hp with h | h
    · rw [cut_take] at h
      exact absurd ((hf p).1 (List.all_eq_true.1 List.all_takeWhile _ h)) (irr p)
    · exact h
  have h2 : cutN f P < P.length := by
    rcases Nat.lt_or_ge (cutN f P) P.length with h | h
    · exact h
    · rw [List.drop_of_length_le h] at h1; cases h1
  refine ⟨h2, ?_⟩
  have h3 := cut_at h2
  rw [List.drop_eq_getElem_cons h2] at h1
  rcases List.mem_cons.1 h1 with h | h
  · exact h.symm
  · have h4 : (P[cutN f P] :: P.drop (cutN f P + 1)).Pairwise R := by rw [← List.drop_eq_getElem_cons h2]; exact hs.sublist (List.drop_sublist _ _)
    rw [(hf _).2 ((List.pairwise_cons.1 h4).1 p h)] at h3
    cases h3
theorem cut_perm (k : Nat) (p : α) : (P.take k ++ [p] ++ P.drop k).Perm (p :: P) := by
  have h : (P.take k ++ [p] ++ P.drop k).Perm ([p] ++ (P.take k ++ P.drop k)) := by
    rw [List.append_assoc]
    exact List.perm_append_comm_assoc _ _ _
  rw [List.take_append_drop] at h
  exact h
end
theorem lexL_tr {x y z : Int × Int} (h1 : lexL x y) (h2 : lexL y z) : lexL x z := by unfold lexL at *; omega
theorem lexL_irr (x : Int × Int) : ¬ lexL x x := by unfold lexL; omega
theorem lexL_tot {x y : Int × Int} (h : x ≠ y) : lexL x y ∨ lexL y x := by
  unfold lexL
  rcases Int.lt_trichotomy x.1 y.1 with h1 | h1 | h1
  · omega
  · rcases Int.lt_trichotomy x.2 y.2 with h2 | h2 | h2
    · omega
    · exact absurd (Prod.ext h1 h2) h
    · omega
  · omega
def lessP (p y : Int × Int) : Bool := decide (y.1 < p.1) || (decide (y.1 = p.1) && decide (y.2 < p.2))
theorem lessP_iff {p y : Int × Int} : lessP p y = true ↔ lexL y p := by unfold lessP lexL; simp
theorem psP_ord {L : PL} {K : WL} (h : LOk L K) : psOrd (psP L) := by
  have h1 : (psP L).Nodup := (psP_perm L).nodup_iff.2 h.nd
  refine (List.Pairwise.and h1 (psP_sorted L)).imp ?_
  rintro x y ⟨h2, h3⟩
  rcases lexL_tot h2 with h9 | h9
  · exact h9
  · exfalso
    apply h2
    refine lexB_anti h3 ?_
    unfold lexL at h9
    unfold lexB
    simp
    omega
/-- The document's Link, Unlink. -/
theorem rlink_plain {L : PL} {K : WL} (h : LOk L K) {p : Int × Int} (hp : p ∉ L) : (psP L).take (cutN (lessP p) (psP L)) ++ [p] ++ (psP L).drop (cutN (lessP p) (psP L)) = psP (insG keyP p L) := by
  refine psP_eq ((cut_perm _ _).trans (((psP_perm L).cons p).trans insG_perm.symm)) ?_
  refine cut_ins (fun y => lessP_iff) lexL_tr (psP_ord h) (fun y hy => lexL_tot fun e => hp ?_)
  rw [← e]
  exact (psP_perm L).mem_iff.1 hy
theorem rfound {L : PL} {K : WL} (h : LOk L K) {p : Int × Int} (hp : p ∈ L) : ∃ h : cutN (lessP p) (psP L) < (psP L).length, (psP L)[cutN (lessP p) (psP L)] = p :=
  cut_mem (fun y => lessP_iff) lexL_irr (psP_ord h) ((psP_perm L).mem_iff.2 hp)
theorem cut_del9 {α : Type} {P : List α} {k : Nat} (hk : k < P.length) : P.Perm (P[k] :: (P.take k ++ P.drop (k + 1))) := by
  have e : P.take k ++ P[k] :: P.drop (k + 1) = P := by rw [← List.drop_eq_getElem_cons hk, List.take_append_drop]
  have h : (P.take k ++ P[k] :: P.drop (k + 1)).Perm (P[k] :: (P.take k ++ P.drop (k + 1))) := List.perm_middle
  rw [e] at h
  exact h
theorem cut_sub {α : Type} {P : List α} {k : Nat} : (P.take k ++ P.drop (k + 1)).Sublist P := by
  conv => rhs; rw [← List.take_append_drop k P]
  exact List.Sublist.append_left (by rw [← List.drop_drop]; exact List.drop_sublist _ _) _
theorem runlink_plain {L : PL} {K : WL} (h : LOk L K) {p : Int × Int} (h1 : i64ok p.1) (h2 : i64ok p.2) (hp : p ∈ L) : (psP L).take (cutN (lessP p) (psP L)) ++ (psP L).drop (cutN (lessP p) (psP L) + 1) = psP (delG keyP L (keyP p)) := by
  obtain ⟨hk, he⟩ := rfound h hp
  refine psP_eq ?_ ((psP_ord h).sublist cut_sub)
  have h3 := (cut_del9 hk).symm.trans (psP_perm L)
  rw [he] at h3
  have h4 : (L.map keyP).Nodup := pnd_map h.nd (fun q hq => (h.ok q hq).2)
  exact (h3.trans (delG_perm keyP_is h4 hp)).cons_inv
/-- The watches. -/
def lessW (r : Int) (y : WV) : Bool := decide (y.ref < r)
theorem rwatch_plain {L : PL} {K : WL} (h : LOk L K) {x : WV} (hx : ∀ y ∈ K, y.ref ≠ x.ref) : (wsP K).take (cutN (lessW x.ref) (wsP K)) ++ [x] ++ (wsP K).drop (cutN (lessW x.ref) (wsP K)) = wsP (insG keyW x K) := by
  refine wsP_eq ((cut_perm _ _).trans (((wsP_perm K).cons x).trans insG_perm.symm)) ?_
  exact cut_ins (R := fun x y : WV => x.ref < y.ref) (fun y => by unfold lessW; simp) (fun h1 h2 => by omega) (wsP_ord h.knd) (fun y hy => by have := hx y ((wsP_perm K).mem_iff.1 hy); omega)
theorem rwfound {L : PL} {K : WL} (h : LOk L K) {r : Int} {x : WV} (hx : x ∈ K) (e : x.ref = r) : ∃ h : cutN (lessW r) (wsP K) < (wsP K).length, (wsP K)[cutN (lessW r) (wsP K)] = x := by
  subst e
  exact cut_mem (R := fun x y : WV => x.ref < y.ref) (fun y => by unfold lessW; simp) (fun x h => by omega) (wsP_ord h.knd) ((wsP_perm K).mem_iff.2 hx)
theorem runwatch_plain {L : PL} {K : WL} (h : LOk L K) {i : Nat} (hi : i < (wsP K).length) : (wsP K).take i ++ (wsP K).drop (i + 1) = wsP (delG keyW K (.int .i64 ((wsP K)[i]).ref)) := by
  refine wsP_eq ?_ ((wsP_ord h.knd).sublist cut_sub)
  have h3 := (cut_del9 hi).symm.trans (wsP_perm K)
  have h4 := knd_map h.knd
  exact (h3.trans (delG_perm keyW_is h4 ((wsP_perm K).mem_iff.1 (List.getElem_mem hi)))).cons_inv
end Go.Proofs.Ytpfikhamokjdjaa
