/- Links (layer 18): rows of the call's own that the library has sorted in place; no function is named here. -/
import Derived.Test.YtpfikhamokjdjaaLkG
import Derived.Shelf.GgSortFunc.InsertionK
namespace Go.Proofs.Ytpfikhamokjdjaa
open Go.RowKit Go.Sort
set_option linter.unusedVariables false

section
variable {α : Type} {enc : α → List Value} {k : Nat}
theorem flat_get [Inhabited α] (hk : ∀ x, (enc x).length = k) : ∀ (l : List α) (t : Nat), t < l.length * k → (l.flatMap enc)[t]? = (enc l[t / k]!)[t % k]?
  | [], t, h => by simp at h
  | x :: r, t, h => by
    have k0 : 0 < k := Nat.pos_of_ne_zero (fun e => by subst e; simp at h)
    rw [List.flatMap_cons]
    by_cases h1 : t < k
    · rw [List.getElem?_append_left (by rw [hk]; exact h1), Nat.div_eq_of_lt h1, Nat.mod_eq_of_lt h1]
      rfl
    · rw [List.getElem?_append_right (by rw [hk]; omega), hk, flat_get hk r (t - k) (by rw [List.length_cons, Nat.add_mul, Nat.one_mul] at h; omega)]
      have e1 : t / k = (t - k) / k + 1 := by rw [← Nat.add_div_right _ k0, Nat.sub_add_cancel (by omega)]
      have e2 : t % k = (t - k) % k := (Nat.mod_eq_sub_mod (by omega))
      rw [e1, e2]
      simp
theorem flat_len (hk : ∀ x, (enc x).length = k) : ∀ (l : List α), (l.flatMap enc).length = l.length * k
  | [] => by simp
  | x :: r => by rw [List.flatMap_cons, List.length_append, hk, flat_len hk r, List.length_cons, Nat.add_mul, Nat.one_mul, Nat.add_comm]
theorem flatK_list [Inhabited α] (hk : ∀ x, (enc x).length = k) (l : List α) : (flatK enc k l.toArray).toList = l.flatMap enc := by
  apply List.ext_getElem?
  intro t
  by_cases h : t < l.length * k
  · rw [flat_get hk l t h]
    have k0 : 0 < k := Nat.pos_of_ne_zero (fun e => by subst e; simp at h)
    have h2 : t % k < (enc l[t / k]!).length := by rw [hk]; exact Nat.mod_lt _ k0
    have h3 := get_flatK enc k l.toArray t (by simpa using h)
    have h4 : t < (flatK enc k l.toArray).size := by simpa using h
    rw [getElem!_pos (flatK enc k l.toArray) t h4] at h3
    have h5 : (flatK enc k l.toArray).toList[t]? = some ((flatK enc k l.toArray)[t]) := by simp
    rw [h5, h3, List.getElem?_eq_getElem h2]
    congr 1
    rw [getElem!_pos (enc l.toArray[t / k]!) (t % k) (by rw [hk]; exact Nat.mod_lt _ k0)]
    simp
  · rw [List.getElem?_eq_none (by simp; omega), List.getElem?_eq_none (by rw [flat_len hk]; omega)]
end
section
variable {w : World} {base e g n k cap m : Nat} {F F' : Array Value} {os : Array Obj}
theorem holds_own (h : w.ownsRow base e k (.slice (some ⟨g, 0, none⟩) n cap) n F.toList) : Holds id w g 0 F := by
  rcases h.2 with ⟨h0, _⟩ | ⟨g', cap', cur, hv, hg, hb, hn, hcap, hz, ht⟩
  · cases h0
  cases hv
  intro j hj
  refine ⟨?_, by simp [World.frozen?, hb]⟩
  have h1 : (cur.toList.take (n * k))[j]? = F.toList[j]? := by rw [ht]
  have hl : F.size = n * k := by have := h.1; simpa using this
  rw [List.getElem?_take_of_lt (by omega)] at h1
  simp only [World.cell?, hb, Nat.zero_add]
  simp only [Option.isSome_none, Bool.false_eq_true, if_false]
  rw [← Array.getElem?_toList, h1, Array.getElem?_toList]
  simp [hj]
theorem own_putRow (h : w.ownsRow base e k (.slice (some ⟨g, 0, none⟩) n cap) n F.toList) (hs : F'.size = F.size) :
    (grow (putRow id (Sort.ahead w m) g 0 F') os).ownsRow base e k (.slice (some ⟨g, 0, none⟩) n cap) n F'.toList ∧ w.grownBy (grow (putRow id (Sort.ahead w m) g 0 F') os) (some g) ∧ g < w.heap.size ∧ base ≤ g := by
  rcases h.2 with ⟨h0, _⟩ | ⟨g', cap', cur, hv, hg, hb, hn, hcap, hz, ht⟩
  · cases h0
  cases hv
  have hl : F.size = n * k := by have := h.1; simpa using this
  have hlt : g < w.heap.size := (Array.getElem?_eq_some_iff.1 hb).1
  have hb2 : (grow (putRow id (Sort.ahead w m) g 0 F') os).heap[g]? = some (.cells (putCells id 0 F' cur) e (0, 0)) := by
    rw [heap_grow_old _ _ (by simpa using hlt)]
    simp [putRow, mapBlock, Sort.ahead, Array.getElem?_modify, hb, onCells]
  refine ⟨⟨by have := h.1; simp [hs, hl], .inr ⟨g, cap, _, rfl, hg, hb2, hn, hcap, by simp [putCells, hz], ?_⟩⟩, ⟨rfl, rfl, rfl, by simp, fun i hi hne => ?_⟩, hlt, hg⟩
  · have hc : n * k ≤ cur.size := by rw [hz]; exact Nat.mul_le_mul_right _ hn
    apply List.ext_getElem?
    intro j
    by_cases hj : j < n * k
    · rw [List.getElem?_take_of_lt hj, Array.getElem?_toList, Array.getElem?_toList]
      have h1 : j < F'.size := by omega
      have h2 : j < cur.size := by omega
      simp [putCells, h1, h2]
    · rw [List.getElem?_take_eq_none (by omega), List.getElem?_eq_none (by simp; omega)]
  · rw [heap_grow_old _ _ (by simpa using hi)]
    have : g ≠ i := fun e => hne (by rw [e])
    simp [putRow, mapBlock, Sort.ahead, Array.getElem?_modify, this]
end
end Go.Proofs.Ytpfikhamokjdjaa
