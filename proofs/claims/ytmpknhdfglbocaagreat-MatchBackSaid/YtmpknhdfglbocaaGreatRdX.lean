/- Terms in memory that stand whatever happens to blocks of a set; rows of terms of the call's own. No function of the program is named here. -/
import Derived.Test.YtmpknhdfglbocaaGreatProg
import Derived.Test.YtmpknhdfglbocaaGreatTermR
import Derived.Test.YtmpknhdfglbocaaGreatOrd
namespace Go.Proofs.YtmpknhdfglbocaaGreat
open Go.RowKit
set_option linter.unusedVariables false

/-- What was there outside of S is as it was. -/
def KeepEx (S : Nat → Prop) (W W' : World) : Prop := ∀ p : Addr, ¬ S p.block → (W.cell? p).isSome → W'.cell? p = W.cell? p
theorem KeepEx.refl (S : Nat → Prop) (W : World) : KeepEx S W W := fun _ _ _ => rfl
theorem KeepEx.mono {S T : Nat → Prop} {W W' : World} (h : KeepEx S W W') (hs : ∀ k, S k → T k) : KeepEx T W W' := fun p hp => h p (fun e => hp (hs _ e))
theorem KeepEx.trans {S : Nat → Prop} {W W' W'' : World} (h : KeepEx S W W') (k : KeepEx S W' W'') : KeepEx S W W'' := fun p hp hs =>
  (k p hp (by rw [h p hp hs]; exact hs)).trans (h p hp hs)
theorem KeepEx.of_fr {F : Nat → Prop} {W W' : World} (h : Fr F W W') : KeepEx F W W' := fun p hp hs => by
  obtain ⟨v, hv⟩ := Option.isSome_iff_exists.1 hs
  exact World.cell?_of_block (h.block _ (World.block_lt_of_cell? W p hv) hp)
theorem KeepEx.of_below {W W' : World} (h : Below W.heap.size W W') (S : Nat → Prop) : KeepEx S W W' := .of_fr (Fr.of_below h S)
theorem KeepEx.of_grown {W W' : World} {row : Option Nat} (h : W.grownBy W' row) : KeepEx (fun k => row = some k) W W' := .of_fr (Fr.of_grown h (fun _ e _ => e))
theorem KeepEx.cells {S : Nat → Prop} {W W' : World} (h : KeepEx S W W') : ∀ p : Addr, ¬ S p.block → ∀ v, W.cell? p = some v → W'.cell? p = some v := fun p hp v hv => (h p hp (by rw [hv]; rfl)).trans hv

/-- A slice reads as these terms, whatever happens to blocks of S. -/
def RdX (S : Nat → Prop) (W : World) (A : Option Addr) (c : Nat) (l : List TV) : Prop := ∀ W', KeepEx S W W' → RdM W' A c l
section
variable {S T : Nat → Prop} {W W' : World} {A : Option Addr} {c : Nat} {l : List TV}
theorem RdX.rd (h : RdX S W A c l) : RdM W A c l := h W (.refl _ _)
theorem RdX.mono (h : RdX S W A c l) (hs : ∀ k, T k → S k) : RdX T W A c l := fun W' hk => h W' (hk.mono hs)
theorem RdX.to (h : RdX S W A c l) (hk : KeepEx S W W') : RdX S W' A c l := fun W'' hk' => h W'' (hk.trans hk')
theorem RdX.new (h : RdX S W A c l) : RdX (fun k => S k ∨ W.heap.size ≤ k) W A c l := fun W' hk => h W' fun p hp hs => by
  obtain ⟨v, hv⟩ := Option.isSome_iff_exists.1 hs
  exact hk p (fun e => by
    rcases e with e | e
    · exact hp e
    · have := World.block_lt_of_cell? W p hv
      omega) hs
theorem RdX.nil_ (S : Nat → Prop) (W : World) (A : Option Addr) (c : Nat) (hc : c ≤ 9223372036854775807) : RdX S W A c [] := fun _ _ => ⟨Nat.zero_le _, hc, .inl rfl⟩
theorem RdX.below (h : RdX S W A c l) (hb : Below W.heap.size W W') : RdX S W' A c l := h.to (.of_below hb S)
end

/-- A term with its items' slice. -/
structure EX where
  t : TV
  A : Option Addr
  c : Nat
def EX.cells (e : EX) : List Value := [.int .i64 e.t.kind, .int .i64 e.t.int, .string ⟨e.t.name.toArray⟩, .slice e.A e.t.items.length e.c]
def exL : List EX → List Value
  | [] => []
  | e :: r => e.cells ++ exL r
theorem EX.cells_len (e : EX) : e.cells.length = 4 := rfl
theorem exL_append (es fs : List EX) : exL (es ++ fs) = exL es ++ exL fs := by
  induction es with
  | nil => rfl
  | cons e r ih => simp [exL, ih]
theorem exL_one (e : EX) : exL [e] = e.cells := by simp [exL]
theorem excells_one (e : EX) : ∀ u ∈ e.cells, u.oneCell' = true := by
  intro u hu
  simp only [EX.cells, List.mem_cons, List.mem_nil_iff, or_false] at hu
  rcases hu with rfl | rfl | rfl | rfl <;> rfl
theorem exL_at : ∀ (es : List EX) (k i : Nat) (h : k < es.length), i < 4 → (exL es)[k * 4 + i]? = es[k].cells[i]?
  | e :: r, 0, i, _, hi => by
    simp only [exL, Nat.zero_mul, Nat.zero_add, List.getElem_cons_zero]
    rw [List.getElem?_append_left (by rw [EX.cells_len]; exact hi)]
  | e :: r, k + 1, i, h, hi => by
    simp only [exL, List.getElem_cons_succ]
    rw [List.getElem?_append_right (by rw [EX.cells_len]; omega), EX.cells_len, show (k + 1) * 4 + i - 4 = k * 4 + i by omega]
    exact exL_at r k i (by simpa using h) hi
  | [], _, _, h, _ => by simp at h
/-- A row of the call's own reads as its terms, whatever happens to blocks of S. -/
theorem rdx_of_own {W : World} {base n cap : Nat} {A : Option Addr} {xs : List EX} (ho : W.ownsRow base 35 4 (.slice A n cap) n (exL xs)) (hn : xs.length = n) (S : Nat → Prop) (hS : ∀ g, (Value.slice A n cap).ownBlock = some g → ¬ S g) (hx : ∀ x ∈ xs, RdX S W x.A x.c x.t.items) : RdX S W A cap (xs.map (·.t)) := by
  intro W' hk
  rcases ho.2 with ⟨hv, hz⟩ | ⟨g, cap', cur, hv, _, hg, hnc, hcm, _, _⟩
  · obtain ⟨rfl, _, rfl⟩ := Value.slice.inj hv
    obtain rfl : xs = [] := List.eq_nil_of_length_eq_zero (by omega)
    exact ⟨Nat.le_refl _, by omega, .inl rfl⟩
  · obtain ⟨rfl, _, rfl⟩ := Value.slice.inj hv
    refine ⟨by simp; omega, by unfold maxLen at hcm; omega, ?_⟩
    rcases Nat.eq_zero_or_pos n with h0 | h0
    · exact .inl (by rw [List.eq_nil_of_length_eq_zero (l := xs) (by omega)]; rfl)
    · refine .inr ⟨g, 0, rfl, row_of fun k hk' => ?_⟩
      have hkx : k < xs.length := by simpa using hk'
      rw [List.getElem_map]
      have hc : ∀ i, i < 4 → W'.cell? ⟨g, 0 + k * 4 + i, none⟩ = xs[k].cells[i]? := fun i hi => by
        have hlt : i < xs[k].cells.length := by rw [EX.cells_len]; exact hi
        have := ho.cells (g := g) rfl (k * 4 + i) (xs[k].cells[i]'hlt) (by rw [exL_at xs k i hkx hi, List.getElem?_eq_getElem hlt])
        rw [Addr.add_lit] at this
        rw [show 0 + k * 4 + i = 0 + (k * 4 + i) by omega, List.getElem?_eq_getElem hlt]
        exact hk.cells _ (hS g rfl) _ this
      exact (TV.at_iff _ _ _).2 ⟨hc 0 (by omega), hc 1 (by omega), hc 2 (by omega), xs[k].A, xs[k].c, hc 3 (by omega), hx _ (List.getElem_mem hkx) W' hk⟩
theorem own_fr {F : Nat → Prop} {W W' : World} {base e size n : Nat} {v : Value} {xs : List Value} (h : W.ownsRow base e size v n xs) (hf : Fr F W W') (hF : ∀ k, v.ownBlock = some k → ¬ F k) : W'.ownsRow base e size v n xs := by
  rcases h.2 with hn | ⟨g, cap', cur, hv, hb, hh, rest⟩
  · exact ⟨h.1, .inl hn⟩
  · have hg := h.lt g (by rw [hv]; rfl)
    exact ⟨h.1, .inr ⟨g, cap', cur, hv, hb, (hf.block g hg.2 (hF g (by rw [hv]; rfl))).trans hh, rest⟩⟩
theorem ex_news (W : World) (e : EX) : Cs (W.alloc (.cells e.cells.toArray 35)) (some ⟨W.heap.size, 0, none⟩) e.cells :=
  .inr ⟨_, rfl, fun j u hu => by rw [Addr.add_lit, Nat.zero_add, (Blk.new W 35 e.cells.toArray).cell]; simpa using hu⟩
theorem ex_form {W : World} {base e n : Nat} {v : Value} {xs : List Value} (h : W.ownsRow base e 4 v n xs) : ∃ A cap, v = .slice A n cap := by
  rcases h.2 with ⟨hv, hz⟩ | ⟨g, cap, cur, hv, _⟩
  · subst hz; exact ⟨none, 0, hv⟩
  · exact ⟨_, _, hv⟩
theorem ex_termsT : ElT Tryz.prog 22 35 (.agg #[.int .i64 0, .int .i64 0, .string ⟨#[]⟩, .slice none 0 0]) 4 56 := ⟨Tryz.underlying22, by kernel_rfl, rfl, by omega⟩
end Go.Proofs.YtmpknhdfglbocaaGreat
