/- Links (layer 18): the document's methods over the sorted lists. -/
import Derived.Test.YtpfikhamokjdjaaLrC
import Derived.Test.YtpfikhamokjdjaaLrD
import Derived.Test.YtpfikhamokjdjaaLrE
namespace Go.Proofs.Ytpfikhamokjdjaa
open Go.RowKit Go.Sort
set_option linter.unusedVariables false

theorem thereP_iff {L : PL} {K : WL} (h : LOk L K) {p : Int × Int} : thereP (psP L) p = true ↔ p ∈ L := by
  unfold thereP
  constructor
  · intro h1
    cases h2 : (psP L)[cutN (lessP p) (psP L)]? with
    | none => rw [h2] at h1; cases h1
    | some q =>
      rw [h2] at h1
      have h3 : q = p := by simpa using h1
      subst h3
      exact (psP_perm L).mem_iff.1 (List.mem_of_getElem? h2)
  · intro h1
    obtain ⟨h2, h3⟩ := rfound h h1
    rw [List.getElem?_eq_getElem h2, h3]
    simp
theorem thereW_iff {L : PL} {K : WL} (h : LOk L K) {r : Int} : thereW r (wsP K) = (getW K r).isSome := by
  rw [Bool.eq_iff_iff]
  unfold thereW
  constructor
  · intro h1
    cases h2 : (wsP K)[cutN (lessW r) (wsP K)]? with
    | none => rw [h2] at h1; cases h1
    | some y =>
      rw [h2] at h1
      have h3 : y.ref = r := by simpa using h1
      subst h3
      rw [getW_some (knd_map h.knd) ((wsP_perm K).mem_iff.1 (List.mem_of_getElem? h2))]
      rfl
  · intro h1
    obtain ⟨y, hy⟩ := Option.isSome_iff_exists.1 h1
    have hm : y ∈ K := List.mem_of_find?_eq_some hy
    have hr : y.ref = r := by
      have h9 := List.find?_some hy
      simpa [keyW, Lit.sameKey] using h9
    obtain ⟨h2, h3⟩ := rwfound h hm hr
    rw [List.getElem?_eq_getElem h2, h3]
    simp [hr]
theorem unwatchP_at {L : PL} {K : WL} (h : LOk L K) (r f : Int) :
    decide (atW r f (wsP K) < (wsP K).length) = (unwatchP K r f).1 ∧ (if atW r f (wsP K) < (wsP K).length then (wsP K).take (atW r f (wsP K)) ++ (wsP K).drop (atW r f (wsP K) + 1) else wsP K) = wsP (unwatchP K r f).2 := by
  have e : atW r f (wsP K) = cutN (fun x : WV => !(decide (x.ref = r) && decide (x.fr = f))) (wsP K) := rfl
  rw [e]
  by_cases h1 : cutN (fun x : WV => !(decide (x.ref = r) && decide (x.fr = f))) (wsP K) < (wsP K).length
  · have h2 := cut_at h1
    have h5 := runwatch_plain h h1
    generalize cutN (fun x : WV => !(decide (x.ref = r) && decide (x.fr = f))) (wsP K) = i at *
    have hm : (wsP K)[i] ∈ K := (wsP_perm K).mem_iff.1 (List.getElem_mem h1)
    generalize (wsP K)[i] = y at *
    simp at h2
    obtain ⟨h3, h4⟩ := h2
    have h6 : getW K r = some y := by rw [← h3]; exact getW_some (knd_map h.knd) hm
    have h7 : unwatchP K r f = (true, delG keyW K (.int .i64 r)) := by unfold unwatchP; rw [h6]; simp only [h4, if_true]
    rw [if_pos h1, decide_eq_true h1, h7, h5, h3]
    exact ⟨rfl, rfl⟩
  · rw [if_neg h1, decide_eq_false h1]
    have hall : ∀ y ∈ K, ¬ (y.ref = r ∧ y.fr = f) := fun y hy ⟨h2, h3⟩ => by
      apply h1
      rcases Nat.lt_or_ge (cutN (fun x : WV => !(decide (x.ref = r) && decide (x.fr = f))) (wsP K)) (wsP K).length with h9 | h9
      · exact h9
      · have h8 := cut_take (f := fun x : WV => !(decide (x.ref = r) && decide (x.fr = f))) (P := wsP K)
        rw [List.take_of_length_le h9] at h8
        have hm : y ∈ (wsP K).takeWhile (fun x : WV => !(decide (x.ref = r) && decide (x.fr = f))) := by rw [← h8]; exact (wsP_perm K).mem_iff.2 hy
        have := List.all_eq_true.1 List.all_takeWhile y hm
        simp [h2, h3] at this
    have h7 : unwatchP K r f = (false, K) := by
      unfold unwatchP
      cases h6 : getW K r with
      | none => rfl
      | some y =>
        have hm : y ∈ K := List.mem_of_find?_eq_some h6
        have hr : y.ref = r := by
          have h9 := List.find?_some h6
          simpa [keyW, Lit.sameKey] using h9
        simp only
        rw [if_neg (fun e9 => hall y hm ⟨hr, e9⟩)]
    rw [h7]
    exact ⟨rfl, rfl⟩
section
variable {W V : World} {B pr cP cW : Nat} {AP AW : Option Addr} {P L : PL} {K M : WL}
theorem runlink_w (h : RK W B pr AP cP AW cW (psP L) M) (hok : LOk L K) (hB : B ≤ W.heap.size) (a b : Int) (ha : i64ok a) (hb : i64ok b) (hl : L.length ≤ 400000) :
    Calls Try.prog 22 #[.pointer (some ⟨pr, 0, none⟩), .int .i64 a, .int .i64 b] W (RLEnd W B pr (.bool (unlinkP L a b).1) (psP (unlinkP L a b).2) M) := by
  have h9 := runlink_v h hB a b (by rw [(psP_perm L).length_eq]; exact hl)
  obtain ⟨p1, p2⟩ := pairN_ok ha hb
  by_cases hp : pairN a b ∈ L
  · have e1 : thereP (psP L) (pairN a b) = true := (thereP_iff hok).2 hp
    have e2 : unlinkP L a b = (true, delG keyP L (keyP (pairN a b))) := by unfold unlinkP; rw [if_pos hp]
    rw [e1, if_pos rfl, runlink_plain hok p1 p2 hp] at h9
    rw [e2]
    exact h9
  · have e1 : thereP (psP L) (pairN a b) = false := by cases h8 : thereP (psP L) (pairN a b) with | false => rfl | true => exact absurd ((thereP_iff hok).1 h8) hp
    have e2 : unlinkP L a b = (false, L) := by unfold unlinkP; rw [if_neg hp]
    rw [e1, if_neg (by decide)] at h9
    rw [e2]
    exact h9
theorem rlink_w (h : RK W B pr AP cP AW cW (psP L) M) (hok : LOk L K) (hB : B ≤ W.heap.size) (a b : Int) (hl : L.length ≤ 400000) :
    Calls Try.prog 21 #[.pointer (some ⟨pr, 0, none⟩), .int .i64 a, .int .i64 b] W (RLEnd W B pr (.bool (linkP L a b).1) (psP (linkP L a b).2) M) := by
  have h9 := rlink_v h hB a b (by rw [(psP_perm L).length_eq]; exact hl)
  by_cases hp : a = b ∨ pairN a b ∈ L
  · have e1 : (thereP (psP L) (pairN a b) || decide (a = b)) = true := by
      rw [Bool.or_eq_true, thereP_iff hok]
      rcases hp with h8 | h8
      · exact .inr (decide_eq_true h8)
      · exact .inl h8
    have e2 : linkP L a b = (false, L) := by unfold linkP; rw [if_pos hp]
    rw [e1, if_pos rfl] at h9
    rw [e2]
    exact h9
  · have hn : pairN a b ∉ L := fun h8 => hp (.inr h8)
    have e1 : (thereP (psP L) (pairN a b) || decide (a = b)) = false := by
      rw [Bool.or_eq_false_iff]
      refine ⟨?_, decide_eq_false fun h8 => hp (.inl h8)⟩
      cases h8 : thereP (psP L) (pairN a b) with
      | false => rfl
      | true => exact absurd ((thereP_iff hok).1 h8) hn
    have e2 : linkP L a b = (true, insG keyP (pairN a b) L) := by unfold linkP; rw [if_neg hp]
    rw [e1, if_neg (by decide), rlink_plain hok hn] at h9
    rw [e2]
    exact h9
theorem rwatch_w (h : RK W B pr AP cP AW cW P (wsP K)) (hok : LOk L K) (hB : B ≤ W.heap.size) (x : WV) (hl : K.length ≤ 400000) :
    Calls Try.prog 23 #[.pointer (some ⟨pr, 0, none⟩), .agg #[.int .i64 x.ref, .int .i64 x.fr, .int .i64 x.to]] W (RLEnd W B pr (.int .i64 ((watchP K x).1 : Int)) P (wsP (watchP K x).2)) := by
  have h9 := rwatch_v h hB x (by rw [(wsP_perm K).length_eq]; exact hl)
  rw [thereW_iff hok] at h9
  unfold watchP
  by_cases hs : (getW K x.ref).isSome = true
  · rw [if_pos hs, if_pos hs] at h9
    rw [if_pos hs]
    exact h9
  · rw [if_neg hs, if_neg hs] at h9
    rw [if_neg hs]
    rw [rwatch_plain hok (fun y hy e => hs (by rw [← e, getW_some (knd_map hok.knd) hy]; rfl))] at h9
    exact h9
theorem runwatch_w (h : RK W B pr AP cP AW cW P (wsP K)) (hok : LOk L K) (hB : B ≤ W.heap.size) (r f : Int) (hl : K.length ≤ 400000) :
    Calls Try.prog 24 #[.pointer (some ⟨pr, 0, none⟩), .int .i64 r, .int .i64 f] W (RLEnd W B pr (.bool (unwatchP K r f).1) P (wsP (unwatchP K r f).2)) := by
  have h9 := runwatch_v h hB r f (by rw [(wsP_perm K).length_eq]; exact hl)
  obtain ⟨e1, e2⟩ := unwatchP_at hok r f
  rw [e1, e2] at h9
  exact h9
theorem rof_w (h : RK W B pr AP cP AW cW (psP L) M) (hok : LOk L K) (a : Int) (hl : L.length ≤ 400000) :
    Calls Try.prog 26 #[.pointer (some ⟨pr, 0, none⟩), .int .i64 a] W (OfEnds W (ofP L a)) := by
  have h9 := rof_v h a (by rw [(psP_perm L).length_eq]; exact hl)
  rw [rofP_eq hok] at h9
  exact h9
end
end Go.Proofs.Ytpfikhamokjdjaa
