/- Links (layer 18): the document's object: what a store of a new slice leaves; the parts of a slice. -/
import Derived.Test.YtpfikhamokjdjaaLrA
namespace Go.Proofs.Ytpfikhamokjdjaa
open Go.RowKit Go.Sort
set_option linter.unusedVariables false

section
variable {α : Type} {enc : α → List Value} {z : Nat}
theorem fm_take (hz : ∀ x, (enc x).length = z) : ∀ (l : List α) (k : Nat), (l.flatMap enc).take (k * z) = (l.take k).flatMap enc
  | [], k => by simp
  | x :: r, 0 => by simp
  | x :: r, k + 1 => by
    rw [List.flatMap_cons, List.take_succ_cons, List.flatMap_cons, show (k + 1) * z = (enc x).length + k * z by rw [hz]; rw [Nat.add_mul]; omega, List.take_length_add_append, fm_take hz r k]
theorem fm_drop (hz : ∀ x, (enc x).length = z) : ∀ (l : List α) (k : Nat), (l.flatMap enc).drop (k * z) = (l.drop k).flatMap enc
  | [], k => by simp
  | x :: r, 0 => by simp
  | x :: r, k + 1 => by
    rw [List.flatMap_cons, List.drop_succ_cons, show (k + 1) * z = (enc x).length + k * z by rw [hz]; rw [Nat.add_mul]; omega, List.drop_length_add_append, fm_drop hz r k]
theorem own_openK {V : World} {base n cap e g z : Nat} {cs : List Value} (ho : V.ownsRow base e z (.slice (some ⟨g, 0, none⟩) n cap) n cs) :
    ∃ tl, base ≤ g ∧ Blk V g e (cs ++ tl).toArray ∧ n ≤ cap ∧ cap ≤ maxLen := by
  rcases ho.2 with ⟨hv, hz⟩ | ⟨g', cap', cur, hv, hb, hg, hnc, hcm, hsz, htk⟩
  · cases hv
  · obtain ⟨e1, _, rfl⟩ := Value.slice.inj hv
    obtain rfl : g = g' := by
      injection e1 with e1
      injection e1
    have hc : cs ++ cur.toList.drop (n * z) = cur.toList := by rw [← htk, List.take_append_drop]
    exact ⟨cur.toList.drop (n * z), hb, by rw [hc]; exact hg, hnc, hcm⟩
/-- The two parts of a slice of the call's own, in every later world. -/
theorem own_parts {W : World} {base e g n cap : Nat} {l : List α} (hz : ∀ x, (enc x).length = z) (h : W.ownsRow base e z (.slice (some ⟨g, 0, none⟩) n cap) n (l.flatMap enc)) (hn : l.length = n) (k : Nat) :
    (∀ V, Below W.heap.size W V → Cs V (some ⟨g, 0, none⟩) ((l.take k).flatMap enc)) ∧ ∃ A3 : Addr, (if cap = k then some (⟨g, 0, none⟩ : Addr) else some ⟨g, k * z, none⟩) = some A3 ∧ ∀ V, Below W.heap.size W V → Cs V (some A3) ((l.drop k).flatMap enc) := by
  obtain ⟨tl, _, hblk, hnc, _⟩ := own_openK h
  refine ⟨fun V hV => .inr ⟨_, rfl, fun t u hu => ?_⟩, ?_⟩
  · rw [Addr.add_lit, Nat.zero_add, (hblk.keep hV).cell]
    rw [← fm_take hz, List.getElem?_take] at hu
    split at hu
    · simp only [List.getElem?_toArray]
      rw [List.getElem?_append_left (List.getElem?_eq_some_iff.1 hu).1]
      exact hu
    · cases hu
  · by_cases hc : cap = k
    · refine ⟨⟨g, 0, none⟩, by simp [hc], fun V hV => .inl ?_⟩
      rw [List.drop_of_length_le (by omega)]
      rfl
    · refine ⟨⟨g, k * z, none⟩, by simp [hc], fun V hV => .inr ⟨_, rfl, fun t u hu => ?_⟩⟩
      rw [Addr.add_lit, (hblk.keep hV).cell, ← fm_drop hz] at *
      rw [List.getElem?_drop] at hu
      simp only [List.getElem?_toArray]
      rw [List.getElem?_append_left (List.getElem?_eq_some_iff.1 hu).1]
      exact hu
end
theorem encP_one (l : PL) : ∀ u ∈ l.flatMap encP, u.oneCell' = true := fun u hu => by
  obtain ⟨x, _, hu⟩ := List.mem_flatMap.1 hu
  unfold encP at hu
  simp at hu
  rcases hu with rfl | rfl <;> rfl
theorem encW_one (l : WL) : ∀ u ∈ l.flatMap encW, u.oneCell' = true := fun u hu => by
  obtain ⟨x, _, hu⟩ := List.mem_flatMap.1 hu
  unfold encW at hu
  simp at hu
  rcases hu with rfl | rfl | rfl <;> rfl
theorem own_growL {w W W' : World} {base e size n : Nat} {v : Value} {xs : List Value} (h : W.ownsRow base e size v n xs) (hb : Below base w W) (hg : W.grownBy W' v.ownBlock) (hs : base ≤ W.heap.size) : Below base w W' :=
  hb.grown hg hs (fun k hk => (World.ownsRow.lt h k hk).1)
/-- What a method of the document's leaves. -/
def RLEnd (W : World) (B pr : Nat) (r : Value) (P : PL) (K : WL) (e : Ending) (w' : World) : Prop := e = .returned r ∧ ∃ AP cP AW cW, RK w' B pr AP cP AW cW P K ∧ Fr (fun k => k = pr) W w'
section
variable {V0 V : World} {B pr cP cW : Nat} {AP AW : Option Addr} {P P' : PL} {K K' : WL}
theorem RK.setP (h : RK V0 B pr AP cP AW cW P K) (hB : B ≤ V0.heap.size) (hb : Below V0.heap.size V0 V) {A2 : Option Addr} {m c2 : Nat} (ho : V.ownsRow V0.heap.size 75 2 (.slice A2 m c2) m (P'.flatMap encP)) (hm : P'.length = m) :
    RK (V.setCell ⟨pr, 0, none⟩ (.slice A2 m c2)) B pr A2 c2 AW cW P' K ∧ Fr (fun k => k = pr) V0 (V.setCell ⟨pr, 0, none⟩ (.slice A2 m c2)) := by
  have hplt := h.obj.lt
  have hk := h.keep hb
  have hne : ∀ g, (Value.slice A2 m c2).ownBlock = some g → V0.heap.size ≤ g := fun g hg => (World.ownsRow.lt ho g hg).1
  have hs : V.grownBy (V.setCell ⟨pr, 0, none⟩ (.slice A2 m c2)) (some pr) := grown_setCell (grown_refl _ (some pr)) (p := ⟨pr, 0, none⟩) (.inl rfl) _
  refine ⟨⟨?_, ?_, ?_, h.lo, fun g hg => ?_, h.nw⟩, (Fr.of_below hb _).same (Fr.setCell (fun k => k = pr) _ (p := ⟨pr, 0, none⟩) (fun _ => rfl) _)⟩
  · rw [hm]
    exact hk.obj.set_ 0 _
  · rw [hm]
    refine (own_low9 ho hB).kept hs ?_
    cases hq9 : (Value.slice A2 m c2).ownBlock with
    | none => exact .inl rfl
    | some g9 => exact .inr (fun e9 => by have := hne g9 hq9; injection e9 with e9; omega)
  · refine hk.w.kept hs ?_
    cases hq9 : (Value.slice AW K.length cW).ownBlock with
    | none => exact .inl rfl
    | some g9 => exact .inr (fun e9 => by injection e9 with e9; exact h.nw g9 hq9 e9)
  · rw [hm] at hg
    have := hne g hg
    omega
theorem RK.setW (h : RK V0 B pr AP cP AW cW P K) (hB : B ≤ V0.heap.size) (hb : Below V0.heap.size V0 V) {A2 : Option Addr} {m c2 : Nat} (ho : V.ownsRow V0.heap.size 33 3 (.slice A2 m c2) m (K'.flatMap encW)) (hm : K'.length = m) :
    RK (V.setCell ⟨pr, 1, none⟩ (.slice A2 m c2)) B pr AP cP A2 c2 P K' ∧ Fr (fun k => k = pr) V0 (V.setCell ⟨pr, 1, none⟩ (.slice A2 m c2)) := by
  have hplt := h.obj.lt
  have hk := h.keep hb
  have hne : ∀ g, (Value.slice A2 m c2).ownBlock = some g → V0.heap.size ≤ g := fun g hg => (World.ownsRow.lt ho g hg).1
  have hs : V.grownBy (V.setCell ⟨pr, 1, none⟩ (.slice A2 m c2)) (some pr) := grown_setCell (grown_refl _ (some pr)) (p := ⟨pr, 1, none⟩) (.inl rfl) _
  refine ⟨⟨?_, ?_, ?_, h.lo, h.np, fun g hg => ?_⟩, (Fr.of_below hb _).same (Fr.setCell (fun k => k = pr) _ (p := ⟨pr, 1, none⟩) (fun _ => rfl) _)⟩
  · rw [hm]
    exact hk.obj.set_ 1 _
  · refine hk.p.kept hs ?_
    cases hq9 : (Value.slice AP P.length cP).ownBlock with
    | none => exact .inl rfl
    | some g9 => exact .inr (fun e9 => by injection e9 with e9; exact h.np g9 hq9 e9)
  · rw [hm]
    refine (own_low9 ho hB).kept hs ?_
    cases hq9 : (Value.slice A2 m c2).ownBlock with
    | none => exact .inl rfl
    | some g9 => exact .inr (fun e9 => by have := hne g9 hq9; injection e9 with e9; omega)
  · rw [hm] at hg
    have := hne g hg
    omega
end
end Go.Proofs.Ytpfikhamokjdjaa
