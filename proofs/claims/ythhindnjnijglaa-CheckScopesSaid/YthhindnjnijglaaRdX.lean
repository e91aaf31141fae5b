/- Terms in memory that stand whatever happens to blocks of a set; rows of terms of the call's own. No function of the program is named here. -/
import Derived.Test.YthhindnjnijglaaProg
import Derived.Test.YthhindnjnijglaaTermV
import Derived.Test.YthhindnjnijglaaOrd
namespace Go.Proofs.Ythhindnjnijglaa
open Go.RowKit
set_option linter.unusedVariables false

/-- What was there outside of S is as it was. -/
def KeepEx (S : Nat → Prop) (W W' : World) : Prop := ∀ p : Addr, ¬ S p.block → (W.cell? p).isSome → W'.cell? p = W.cell? p
theorem KeepEx.refl (S : Nat → Prop) (W : World) : KeepEx S W W := fun _ _ _ => rfl
theorem KeepEx.mono {S T : Nat → Prop} {W W' : World} (h : KeepEx S W W') (hs : ∀ k, S k → T k) : KeepEx T W W' := fun p hp => h p (fun e => hp (hs _ e))
theorem KeepEx.trans {S : Nat → Prop} {W W' W'' : World} (h : KeepEx S W W') (k : KeepEx S W' W'') : KeepEx S W W'' := fun p hp hs =>
  (k p hp (by rw [h p hp hs]; exact hs)).trans (h p hp hs)
theorem KeepEx.of_fr {F : Nat → Prop} {W W' : World} (h : Fr F W W') : KeepEx F W W' := fun p hp hs => by
  obtain ⟨v, hv⟩ := Option.isSome_iff_exists.1 hs
  exact World.cell?_of_block (h.block _ (World.block_lt_of_cell? W p hv) hp)
theorem KeepEx.of_below {W W' : World} (h : Below W.heap.size W W') (S : Nat → Prop) : KeepEx S W W' := .of_fr (Fr.of_below h S)
theorem KeepEx.of_grown {W W' : World} {row : Option Nat} (h : W.grownBy W' row) : KeepEx (fun k => row = some k) W W' := .of_fr (Fr.of_grown h (fun _ e _ => e))
theorem KeepEx.cells {S : Nat → Prop} {W W' : World} (h : KeepEx S W W') : ∀ p : Addr, ¬ S p.block → ∀ v, W.cell? p = some v → W'.cell? p = some v := fun p hp v hv => (h p hp (by rw [hv]; rfl)).trans hv

/-- A slice reads as these terms, whatever happens to blocks of S. -/
def RdX (S : Nat → Prop) (W : World) (A : Option Addr) (c : Nat) (l : List TV) : Prop := ∀ W', KeepEx S W W' → RdM W' A c l
section
variable {S T : Nat → Prop} {W W' : World} {A : Option Addr} {c : Nat} {l : List TV}
theorem RdX.rd (h : RdX S W A c l) : RdM W A c l := h W (.refl _ _)
theorem RdX.mono (h : RdX S W A c l) (hs : ∀ k, T k → S k) : RdX T W A c l := fun W' hk => h W' (hk.mono hs)
theorem RdX.to (h : RdX S W A c l) (hk : KeepEx S W W') : RdX S W' A c l := fun W'' hk' => h W'' (hk.trans hk')
theorem RdX.new (h : RdX S W A c l) : RdX (fun k => S k ∨ W.heap.size ≤ k) W A c l := fun W' hk => h W' fun p hp hs => by
  obtain ⟨v, hv⟩ := Option.isSome_iff_exists.1 hs
  exact hk p (fun e => by
    rcases e with e | e
    · exact hp e
    · have := World.block_lt_of_cell? W p hv
      omega) hs
theorem RdX.nil_ (S : Nat → Prop) (W : World) (A : Option Addr) (c : Nat) (hc : c ≤ 9223372036854775807) : RdX S W A c [] := fun _ _ => ⟨Nat.zero_le _, hc, .inl rfl⟩
theorem RdX.below (h : RdX S W A c l) (hb : Below W.heap.size W W') : RdX S W' A c l := h.to (.of_below hb S)
end

/-- A term with its items' slice. -/
structure EX where
  t : TV
  A : Option Addr
  c : Nat
def EX.cells (e : EX) : List Value := [.int .i64 e.t.kind, .int .i64 e.t.int, .string ⟨e.t.name.toArray⟩, .slice e.A e.t.items.length e.c]
def exL : List EX → List Value
  | [] => []
  | e :: r => e.cells ++ exL r
theorem EX.cells_len (e : EX) : e.cells.length = 4 := rfl
theorem exL_len (es : List EX) : (exL es).length = es.length * 4 := by
  induction es with
  | nil => rfl
  | cons e r ih => simp [exL, EX.cells_len, ih]; omega
theorem exL_append (es fs : List EX) : exL (es ++ fs) = exL es ++ exL fs := by
  induction es with
  | nil => rfl
  | cons e r ih => simp [exL, ih]
theorem exL_one (e : EX) : exL [e] = e.cells := by simp [exL]
theorem excells_one (e : EX) : ∀ u ∈ e.cells, u.oneCell' = true := by
  intro u hu
  simp only [EX.cells, List.mem_cons, List.mem_nil_iff, or_false] at hu
  rcases hu with rfl | rfl | rfl | rfl <;> rfl
theorem exL_at : ∀ (es : List EX) (k i : Nat) (h : k < es.length), i < 4 → (exL es)[k * 4 + i]? = es[k].cells[i]?
  | e :: r, 0, i, _, hi => by
    simp only [exL, Nat.zero_mul, Nat.zero_add, List.getElem_cons_zero]
    rw [List.getElem?_append_left (by rw [EX.cells_len]; exact hi)]
  | e :: r, k + 1, i, h, hi => by
    simp only [exL, List.getElem_cons_succ]
    rw [List.getElem?_append_right (by rw [EX.cells_len]; omega), EX.cells_len, show (k + 1) * 4 + i - 4 = k * 4 + i by omega]
    exact exL_at r k i (by simpa using h) hi
  | [], _, _, h, _ => by simp at h
theorem own_fr {F : Nat → Prop} {W W' : World} {base e size n : Nat} {v : Value} {xs : List Value} (h : W.ownsRow base e size v n xs) (hf : Fr F W W') (hF : ∀ k, v.ownBlock = some k → ¬ F k) : W'.ownsRow base e size v n xs := by
  rcases h.2 with hn | ⟨g, cap', cur, hv, hb, hh, rest⟩
  · exact ⟨h.1, .inl hn⟩
  · have hg := h.lt g (by rw [hv]; rfl)
    exact ⟨h.1, .inr ⟨g, cap', cur, hv, hb, (hf.block g hg.2 (hF g (by rw [hv]; rfl))).trans hh, rest⟩⟩
theorem ex_form {W : World} {base e n : Nat} {v : Value} {xs : List Value} (h : W.ownsRow base e 4 v n xs) : ∃ A cap, v = .slice A n cap := by
  rcases h.2 with ⟨hv, hz⟩ | ⟨g, cap, cur, hv, _⟩
  · subst hz; exact ⟨none, 0, hv⟩
  · exact ⟨_, _, hv⟩
end Go.Proofs.Ythhindnjnijglaa
