/- Layer 13: bindings by rising names, one laid into rising ones, as plain lists. No program is named here. -/
import Derived.Test.YtmpknhdfglbocaaGreatMaV
namespace Go.Proofs.YtmpknhdfglbocaaGreat
open Go.RowKit
set_option linter.unusedVariables false

section
variable {α : Type}
/-- Where the one ahead of which all are less is laid in. -/
theorem insG_put (b : BG α) : ∀ (L : List (BG α)) (k : Nat), k ≤ L.length → (∀ x ∈ L.take k, Op.bytesLess x.1 b.1 = true) → (∀ h : k < L.length, Op.bytesLess L[k].1 b.1 = false ∧ (L[k].1 == b.1) = false) → insG b L = L.take k ++ [b] ++ L.drop k
  | [], k, hk, _, _ => by
    have : k = 0 := by simpa using hk
    subst this
    rfl
  | x :: r, 0, _, _, h => by
    obtain ⟨h1, h2⟩ := h (by simp)
    simp only [List.getElem_cons_zero] at h1 h2
    have h3 : ¬ x.1 = b.1 := by simpa using h2
    simp only [insG, h1, if_neg h3]
    rfl
  | x :: r, k + 1, hk, ha, h => by
    have h1 := ha x (by rw [List.take_succ_cons]; exact List.mem_cons_self ..)
    have ih := insG_put b r k (by simpa using hk) (fun y hy => ha y (by rw [List.take_succ_cons]; exact List.mem_cons_of_mem _ hy)) (fun h' => by have := h (by simpa using h'); simpa only [List.getElem_cons_succ] using this)
    simp only [insG, h1, if_true, ih, List.take_succ_cons, List.drop_succ_cons, List.cons_append]
theorem insG_set (b : BG α) : ∀ (L : List (BG α)) (k : Nat) (hk : k < L.length), (∀ x ∈ L.take k, Op.bytesLess x.1 b.1 = true) → Op.bytesLess L[k].1 b.1 = false → (L[k].1 == b.1) = true → insG b L = L.set k (L[k].1, b.2)
  | x :: r, 0, _, _, h1, h2 => by
    simp only [List.getElem_cons_zero] at h1 h2
    simp only [insG, h1, if_pos (eq_of_beq h2)]
    rfl
  | x :: r, k + 1, hk, ha, h1, h2 => by
    have h0 := ha x (by rw [List.take_succ_cons]; exact List.mem_cons_self ..)
    have ih := insG_set b r k (by simpa using hk) (fun y hy => ha y (by rw [List.take_succ_cons]; exact List.mem_cons_of_mem _ hy)) (by simpa using h1) (by simpa using h2)
    simp only [insG, h0, if_true, ih, List.set_cons_succ, List.getElem_cons_succ]
theorem less_take {b : BG α} {L : List (BG α)} {k : Nat} (hk : k < L.length) (h : ∀ x ∈ L.take k, Op.bytesLess x.1 b.1 = true) (h1 : Op.bytesLess L[k].1 b.1 = true) : ∀ x ∈ L.take (k + 1), Op.bytesLess x.1 b.1 = true := by
  intro x hx
  rw [List.take_succ_eq_append_getElem hk] at hx
  rcases List.mem_append.1 hx with hx | hx
  · exact h x hx
  · rw [List.mem_singleton.1 hx]; exact h1
end
theorem bL_append {w0 : World} (a b : List (BG (TE w0))) : bL (a ++ b) = bL a ++ bL b := flat_append _ _ _
theorem own_keepB {W W' : World} {base e size n : Nat} {v : Value} {xs : List Value} (h : W.ownsRow base e size v n xs) (hb : Below W.heap.size W W') : W'.ownsRow base e size v n xs :=
  h.kept (grown_of_below hb none) (by cases v.ownBlock <;> simp)
/-- One has its value replaced. -/
theorem bL_set {w0 : World} : ∀ (L : List (BG (TE w0))) (k : Nat) (h : k < L.length) (e : TE w0), bL (L.set k (L[k].1, e)) = ((((bL L).set (k * 5 + 1) (.int .i64 e.t.kind)).set (k * 5 + 2) (.int .i64 e.t.int)).set (k * 5 + 3) (.string ⟨e.t.name.toArray⟩)).set (k * 5 + 4) (.slice e.A e.t.items.length e.c)
  | x :: r, 0, _, e => by simp [bL, flat_cons, bc]
  | x :: r, k + 1, h, e => by
    have ih := bL_set r k (by simpa using h) e
    have hs : ∀ (j : Nat) (xs : List Value) (u : Value), (bc x ++ xs).set ((k + 1) * 5 + j) u = bc x ++ xs.set (k * 5 + j) u := fun j xs u => by
      have : (k + 1) * 5 + j = (k * 5 + j) + 5 := by omega
      rw [this]
      simp [bc]
    simp only [bL] at ih ⊢
    rw [flat_cons, List.set_cons_succ, flat_cons, List.getElem_cons_succ, ih, hs, hs, hs, hs]
theorem rdb_take {w0 W : World} {A : Option Addr} {c : Nat} {L : List (BG (TE w0))} (h : RdB W A c L) (k : Nat) : Cs W A (bL (L.take k)) := by
  rcases h.2.2 with rfl | ⟨b, o, hA, hr⟩
  · exact .inl (by simp [bL, flat_nil])
  · refine .inr ⟨_, hA, fun j u hj => ?_⟩
    rw [Addr.add_lit]
    refine hr j u ?_
    rw [← List.take_append_drop k L, bL_append, List.getElem?_append_left (List.getElem?_eq_some_iff.1 hj).1]
    exact hj
theorem rdb_drop {w0 W : World} {g o : Nat} {c : Nat} {L : List (BG (TE w0))} (h : RdB W (some ⟨g, o, none⟩) c L) (k : Nat) (hk : k ≤ L.length) : Cs W (some ⟨g, o + k * 5, none⟩) (bL (L.drop k)) := by
  rcases h.2.2 with rfl | ⟨b, o', hA, hr⟩
  · exact .inl (by simp [bL, flat_nil])
  · injection hA with hA
    injection hA with e1 e2
    subst e1 e2
    refine .inr ⟨_, rfl, fun j u hj => ?_⟩
    rw [Addr.add_lit, Nat.add_assoc]
    refine hr _ u ?_
    rw [← List.take_append_drop k L, bL_append, List.getElem?_append_right (by rw [flat_len bc_len, List.length_take]; omega), flat_len bc_len, List.length_take, Nat.min_eq_left hk, Nat.add_sub_cancel_left]
    exact hj
end Go.Proofs.YtmpknhdfglbocaaGreat
