/- Links (layer 18): plain facts: the sorted lists are one each; what Drop leaves. -/
import Derived.Test.YtpfikhamokjdjaaLkS
namespace Go.Proofs.Ytpfikhamokjdjaa
open Go.RowKit Go.Maps Go.WideMaps Go.Shelf Go.Sort
set_option linter.unusedVariables false

def wsP (K : WL) : WL := K.mergeSort fun x y => decide (x.ref ≤ y.ref)
def lexB (x y : Int × Int) : Bool := decide (x.1 < y.1) || (decide (x.1 = y.1) && decide (x.2 ≤ y.2))
def psP (L : PL) : PL := L.mergeSort lexB
theorem ord_inj {ys : WL} (h : wsOrd ys) {a b : WV} (ha : a ∈ ys) (hb : b ∈ ys) (e : a.ref = b.ref) : a = b := by
  induction ys with
  | nil => cases ha
  | cons y r ih =>
    obtain ⟨h1, h2⟩ := List.pairwise_cons.1 h
    rcases List.mem_cons.1 ha with rfl | ha
    · rcases List.mem_cons.1 hb with rfl | hb
      · rfl
      · have := h1 b hb; omega
    · rcases List.mem_cons.1 hb with rfl | hb
      · exact absurd (h1 a (by assumption)) (by omega)
      · exact ih h2 ha hb
theorem wsP_sorted (K : WL) : (wsP K).Pairwise fun x y => x.ref ≤ y.ref := by
  have h9 := List.pairwise_mergeSort (le := fun x y : WV => decide (x.ref ≤ y.ref)) (fun a b c h1 h2 => by simp at *; omega) (fun a b => by simp; omega) K
  exact h9.imp fun h8 => by simpa using h8
theorem wsP_perm (K : WL) : (wsP K).Perm K := List.mergeSort_perm _ _
theorem wsP_eq {ys K : WL} (hp : ys.Perm K) (ho : wsOrd ys) : ys = wsP K := by
  refine (hp.trans (wsP_perm K).symm).eq_of_pairwise (le := fun x y => x.ref ≤ y.ref) (fun a b ha hb h1 h2 => ?_) (ho.imp fun h => by omega) (wsP_sorted K)
  exact ord_inj ho ha ((hp.trans (wsP_perm K).symm).mem_iff.2 hb) (by omega)
theorem psP_sorted (L : PL) : (psP L).Pairwise fun x y => lexB x y = true := by
  exact List.pairwise_mergeSort (le := lexB) (fun a b c h1 h2 => by unfold lexB at *; simp at *; omega) (fun a b => by unfold lexB; simp; omega) L
theorem psP_perm (L : PL) : (psP L).Perm L := List.mergeSort_perm _ _
theorem lexB_anti {a b : Int × Int} (h1 : lexB a b = true) (h2 : lexB b a = true) : a = b := by
  obtain ⟨a1, a2⟩ := a
  obtain ⟨b1, b2⟩ := b
  unfold lexB at *
  simp at *
  omega
theorem psP_eq {ys L : PL} (hp : ys.Perm L) (ho : psOrd ys) : ys = psP L :=
  (hp.trans (psP_perm L).symm).eq_of_pairwise (le := fun x y => lexB x y = true) (fun a b _ _ h1 h2 => lexB_anti h1 h2) (ho.imp fun h => by unfold lexL at h; unfold lexB; simp; omega) (psP_sorted L)
theorem psP_of_perm {L L' : PL} (h : L.Perm L') : psP L = psP L' :=
  ((psP_perm L).trans (h.trans (psP_perm L').symm)).eq_of_pairwise (le := fun x y => lexB x y = true) (fun a b _ _ h1 h2 => lexB_anti h1 h2) (psP_sorted L) (psP_sorted L')

/-! ### what Drop leaves -/
theorem delW_eq (K : WL) (r : Int) : delG keyW K (.int .i64 r) = K.filter fun y => decide (y.ref ≠ r) := by
  unfold delG keyW
  congr 1
  funext y
  simp [Lit.sameKey]
theorem drpK_eq (a : Int) (ys : WL) : ∀ K : WL, drpK K a ys = K.filter fun z => !(ys.any fun x => hitW a x && decide (x.ref = z.ref)) := by
  induction ys with
  | nil => intro K; simp [drpK]; exact (List.filter_eq_self.2 fun _ _ => rfl).symm
  | cons y r ih =>
    intro K
    show drpK (drpW a K y) a r = _
    rw [ih]
    have e : drpW a K y = K.filter fun z => !(hitW a y && decide (y.ref = z.ref)) := by
      unfold drpW
      by_cases h : hitW a y = true
      · rw [if_pos h, delW_eq]
        congr 1
        funext z
        simp [h]
        constructor <;> intro h9 <;> exact h9.symm
      · rw [if_neg h]
        have h' : hitW a y = false := by simpa using h
        simp [h']
        exact (List.filter_eq_self.2 fun _ _ => rfl).symm
    rw [e, List.filter_filter]
    congr 1
    funext z
    simp only [List.any_cons, Bool.not_or, Bool.and_comm]
theorem drpK_all {K ys : WL} {a : Int} (hp : ys.Perm K) (ho : wsOrd ys) : drpK K a ys = K.filter fun z => !hitW a z := by
  rw [drpK_eq]
  refine List.filter_congr fun z hz => ?_
  congr 1
  rw [Bool.eq_iff_iff, List.any_eq_true]
  constructor
  · rintro ⟨x, hx, h⟩
    simp at h
    have := ord_inj ho hx (hp.mem_iff.2 hz) h.2
    rw [← this]
    exact h.1
  · intro h
    exact ⟨z, hp.mem_iff.2 hz, by simp [h]⟩
theorem delP_eq {L : PL} {K : WL} (h : LOk L K) {q : Int × Int} (h1 : i64ok q.1) (h2 : i64ok q.2) : delG keyP L (keyP q) = L.filter fun p => decide (p ≠ q) := by
  unfold delG
  refine List.filter_congr fun p hp => ?_
  obtain ⟨_, p1, p2⟩ := h.ok p hp
  rw [Bool.eq_iff_iff]
  simp only [Bool.not_eq_true', ne_eq, decide_eq_true_eq]
  constructor
  · rintro h9 rfl
    rw [WideAt.sameKey_self (keyP_is p)] at h9
    cases h9
  · intro h9
    cases h8 : (keyP p).sameKey (keyP q) with
    | false => rfl
    | true => exact absurd (keyP_inj p1 p2 h1 h2 (WideAt.sameKey_eq h8)) h9
theorem unlL_eq (a : Int) (ha : i64ok a) (K : WL) (bs : List Int) (hb : ∀ z ∈ bs, i64ok z) : ∀ L : PL, LOk L K → unlL L a bs = L.filter fun p => !(bs.any fun b => decide (p = pairN a b)) := by
  induction bs with
  | nil => intro L _; simp [unlL]; exact (List.filter_eq_self.2 fun _ _ => rfl).symm
  | cons b r ih =>
    intro L hL
    have hbb := hb b (by simp)
    obtain ⟨q1, q2⟩ := pairN_ok ha hbb
    have e : (unlinkP L a b).2 = L.filter fun p => !decide (p = pairN a b) := by
      unfold unlinkP
      split
      · rw [delP_eq hL q1 q2]
        exact List.filter_congr fun p _ => by simp
      · rename_i h9
        refine (List.filter_eq_self.2 fun p hp => ?_).symm
        simp only [Bool.not_eq_true', decide_eq_false_iff_not]
        rintro rfl
        exact h9 hp
    have hok : LOk (unlinkP L a b).2 K := by
      unfold unlinkP
      split
      · exact hL.del _
      · exact hL
    show unlL (unlinkP L a b).2 a r = _
    rw [ih (fun z hz => hb z (by simp [hz])) _ hok, e, List.filter_filter]
    congr 1
    funext p
    simp only [List.any_cons, Bool.not_or, Bool.and_comm]
theorem pairN_self {p : Int × Int} (h : p.1 < p.2) : pairN p.1 p.2 = p ∧ pairN p.2 p.1 = p := by
  obtain ⟨x, y⟩ := p
  unfold pairN
  simp only at *
  constructor <;> (rw [Prod.mk.injEq]; omega)
def offP (a : Int) (L : PL) : PL := L.filter fun p => decide (p.1 ≠ a) && decide (p.2 ≠ a)
theorem unlL_all {L : PL} {K : WL} (h : LOk L K) {a : Int} (ha : i64ok a) : unlL L a (ofP L a) = offP a L := by
  rw [unlL_eq a ha K _ (fun z hz => ofP_ok h hz) L h]
  unfold offP
  refine List.filter_congr fun p hp => ?_
  obtain ⟨h1, _⟩ := h.ok p hp
  obtain ⟨e1, e2⟩ := pairN_self h1
  rw [Bool.eq_iff_iff]
  simp only [Bool.not_eq_true', List.any_eq_false, decide_eq_true_eq, Bool.and_eq_true]
  constructor
  · intro h9
    refine ⟨fun e => ?_, fun e => ?_⟩
    · refine h9 p.2 (mem_ofP.2 ⟨p, hp, by unfold othP; rw [if_pos e.symm]⟩) ?_
      rw [← e, e1]
    · refine h9 p.1 (mem_ofP.2 ⟨p, hp, by unfold othP; rw [if_neg (by omega), if_pos e.symm]⟩) ?_
      rw [← e, e2]
  · rintro ⟨h2, h3⟩ b _ e
    rw [e] at h2 h3
    unfold pairN at h2 h3
    simp only at h2 h3
    omega
def onK (a : Int) (K : WL) : WL := K.filter fun z => !hitW a z

/-! ### the contracts with the sorted lists -/
section
variable {w0 W V : World} {pm b1 b2 n : Nat} {L : PL} {K : WL}
theorem watches_w (h : LK w0 W pm b1 b2 n L K) (hlen : K.length ≤ 1000000) : Calls Try.prog 14 #[.pointer (some ⟨pm, 0, none⟩)] W fun e w' => ∃ v, e = .returned v ∧ w'.ownsRow W.heap.size 33 3 v (wsP K).length ((wsP K).flatMap encW) ∧ Below W.heap.size W w' :=
  (watches_v h hlen).mono fun e w' h9 => by
    obtain ⟨v, ys, rfl, h1, h2, h3, h4⟩ := h9
    rw [wsP_eq h1 h2] at h3
    exact ⟨v, rfl, h3, h4⟩
theorem pairs_w (h : LK w0 W pm b1 b2 n L K) (hlen : L.length ≤ 1000000) : Calls Try.prog 19 #[.pointer (some ⟨pm, 0, none⟩)] W fun e w' => ∃ v, e = .returned v ∧ w'.ownsRow W.heap.size 45 2 v (psP L).length ((psP L).flatMap encP) ∧ Below W.heap.size W w' :=
  (pairs_v h hlen).mono fun e w' h9 => by
    obtain ⟨v, ys, rfl, h1, h2, h3, h4⟩ := h9
    rw [psP_eq h1 h2] at h3
    exact ⟨v, rfl, h3, h4⟩
theorem drop_w (h : LK w0 W pm b1 b2 n L K) (a : Int) (ha : i64ok a) (hL : L.length ≤ 1000000) (hK : K.length ≤ 1000000) :
    Calls Try.prog 12 #[.pointer (some ⟨pm, 0, none⟩), .int .i64 a] W fun e w' => ∃ v1 v2, e = .returned (.tuple #[v1, v2]) ∧ w'.ownsRow W.heap.size 2 1 v1 (ofP L a).length ((ofP L a).map (Value.int .i64)) ∧
      w'.ownsRow W.heap.size 33 3 v2 (toldP a (wsP K)).length ((toldP a (wsP K)).flatMap encW) ∧ LK w0 w' pm b1 b2 n (offP a L) (onK a K) ∧ Fr (fun k => k = b1 ∨ k = b2) W w' :=
  (drop_v h a ha hL hK).mono fun e w' h9 => by
    obtain ⟨v1, v2, ys, rfl, h1, h2, h3, h4, h5, h6⟩ := h9
    rw [unlL_all h.lk ha, drpK_all h1 h2] at h5
    rw [wsP_eq h1 h2] at h4
    exact ⟨v1, v2, rfl, h3, h4, h5, h6⟩
end
end Go.Proofs.Ytpfikhamokjdjaa
