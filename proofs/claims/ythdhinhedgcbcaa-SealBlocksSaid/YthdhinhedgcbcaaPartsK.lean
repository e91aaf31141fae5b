/- Rows of rows of bytes that a loop's body collects: what one round leaves. -/
import Derived.Test.YthdhinhedgcbcaaChunk
import Derived.Test.YthdhinhedgcbcaaLibA
namespace Go.Proofs.Ythdhinhedgcbcaa
open Go.RowKit Go.Shelf
set_option linter.unusedVariables false

theorem listsT : ElT Try.prog 42 23 (.slice none 0 0) 1 24 := ⟨Try.underlying42, by kernel_rfl, rfl, by omega⟩

/-- A value is a slice of bytes of the call's own. -/
def RowV (W : World) (v : Value) (l : List UInt8) : Prop :=
  ∃ A c, v = .slice A l.length c ∧ Rd W A l ∧ l.length ≤ c ∧ c ≤ 9223372036854775807 ∧ ∀ b off, A = some ⟨b, off, none⟩ → ∃ cs fr, W.heap[b]? = some (.cells cs 5 fr)
def RowsV (W : World) (vs : List Value) (ls : List (List UInt8)) : Prop := vs.length = ls.length ∧ ∀ j, (h : j < vs.length) → (h' : j < ls.length) → RowV W vs[j] ls[j]
theorem RowV.keep {W W' : World} {v : Value} {l : List UInt8} (h : RowV W v l) (hk : ∀ (b : Nat) cs fr, W.heap[b]? = some (Obj.cells cs 5 fr) → W'.heap[b]? = W.heap[b]?) : RowV W' v l := by
  obtain ⟨A, c, hv, hr, h1, h2, hb⟩ := h
  refine ⟨A, c, hv, ?_, h1, h2, fun b off e => ?_⟩
  · rcases hr with rfl | ⟨b, off, rfl, hc⟩
    · exact .inl rfl
    · obtain ⟨cs, fr, hh⟩ := hb b off rfl
      exact .inr ⟨b, off, rfl, fun j hj => (World.cell?_of_block (hk b cs fr hh)).trans (hc j hj)⟩
  · obtain ⟨cs, fr, hh⟩ := hb b off e
    exact ⟨cs, fr, (hk b cs fr hh).trans hh⟩
theorem RowsV.keep {W W' : World} {vs : List Value} {ls : List (List UInt8)} (h : RowsV W vs ls) (hk : ∀ (b : Nat) cs fr, W.heap[b]? = some (Obj.cells cs 5 fr) → W'.heap[b]? = W.heap[b]?) : RowsV W' vs ls :=
  ⟨h.1, fun j h1 h2 => (h.2 j h1 h2).keep hk⟩
theorem RowsV.snoc {W : World} {vs : List Value} {ls : List (List UInt8)} {v : Value} {l : List UInt8} (h : RowsV W vs ls) (hv : RowV W v l) : RowsV W (vs ++ [v]) (ls ++ [l]) := by
  refine ⟨by simp [h.1], fun j h1 h2 => ?_⟩
  by_cases hj : j < vs.length
  · rw [List.getElem_append_left hj, List.getElem_append_left (by rw [← h.1]; exact hj)]
    exact h.2 j hj (by rw [← h.1]; exact hj)
  · have e := h.1
    simp at h1
    obtain rfl : j = vs.length := by omega
    rw [List.getElem_append_right (Nat.le_refl _), List.getElem_append_right (by omega)]
    simpa [e] using hv
theorem row_of_own {W : World} {base n : Nat} {v : Value} {l : List UInt8} (h : W.ownsRow base 5 1 v n (l.map bv)) : RowV W v l := by
  obtain ⟨A, c, rfl, hr, hl, hc⟩ := own_rd h
  subst hl
  refine ⟨A, c, rfl, hr, hc, ?_, fun b off e => ?_⟩
  · rcases h.2 with ⟨hv, _⟩ | ⟨g, cap, cur, hv, _, _, _, h10, _⟩
    · have := (Value.slice.inj hv).2.2; omega
    · have := (Value.slice.inj hv).2.2; unfold maxLen at h10; omega
  · rcases h.2 with ⟨hv, _⟩ | ⟨g, cap, cur, hv, _, hg, _⟩
    · have := (Value.slice.inj hv).1
      rw [e] at this
      cases this
    · have := (Value.slice.inj hv).1
      rw [e] at this
      injection this with this
      injection this with this
      subst this
      exact ⟨cur, _, hg⟩

/-- The box Bo holds a row of the call's own, of rows that read as ls. -/
def PI (w : World) (Bo n1 : Nat) (ls : List (List UInt8)) (W : World) : Prop :=
  (∃ v vs, Blk W Bo 42 #[v] ∧ W.ownsRow n1 23 1 v ls.length vs ∧ RowsV W vs ls) ∧ Below w.heap.size w W ∧ n1 ≤ W.heap.size
theorem blk_u8 {W : World} {g t : Nat} {cs cs' : Array Value} {fr : Nat × Nat} (h : Blk W g t cs) (ht : t ≠ 5) : W.heap[g]? ≠ some (.cells cs' 5 fr) := by
  intro e
  unfold Blk at h
  rw [h] at e
  injection e with e
  injection e with _ e _
  exact ht e
theorem own_u8 {W : World} {base e n g : Nat} {v : Value} {xs : List Value} {cs' : Array Value} {fr : Nat × Nat} (h : W.ownsRow base e 1 v n xs) (ht : e ≠ 5) (hg : v.ownBlock = some g) : W.heap[g]? ≠ some (.cells cs' 5 fr) := by
  rcases h.2 with ⟨rfl, _⟩ | ⟨g', cap, cur, rfl, _, hh, _⟩
  · cases hg
  · obtain rfl : g' = g := by simpa [Value.ownBlock] using hg
    exact blk_u8 hh ht
theorem own_cells {W : World} {base e n g : Nat} {v : Value} {xs : List Value} (h : W.ownsRow base e 1 v n xs) (hg : v.ownBlock = some g) : ∃ o, W.heap[g]? = some o ∧ o.isCells = true := by
  rcases h.2 with ⟨rfl, _⟩ | ⟨g', cap, cur, rfl, _, hh, _⟩
  · cases hg
  · obtain rfl : g' = g := by simpa [Value.ownBlock] using hg
    exact ⟨_, hh, rfl⟩
theorem pi_own (w : World) (Bo n1 B : Nat) (hB : w.heap.size ≤ B) {β : Type} (f : β → List (List UInt8)) : OwnFrom B (fun s W => PI w Bo n1 (f s) W) := by
  rintro s W W' row ⟨⟨v, vs, hv, ho, hr⟩, hb, hn⟩ hg hrow
  have hne : ∀ k o, W.heap[k]? = some o → o.isCells = true → some k ≠ row := by
    rintro k o hk ho e
    obtain ⟨_, o', ho', hc'⟩ := hrow k e.symm
    rw [hk] at ho'
    injection ho' with ho'
    rw [ho'] at ho
    rw [ho] at hc'
    cases hc'
  refine ⟨⟨v, vs, hv.grown hg (hne Bo _ hv rfl), ho.kept hg ?_, hr.keep fun b cs fr hh => hg.block b (Array.getElem?_eq_some_iff.1 hh).1 (hne b _ hh rfl)⟩, hb.grown hg hb.size (fun k e => Nat.le_trans hB (hrow k e).1), Nat.le_trans hn hg.size⟩
  cases hgb : v.ownBlock with
  | none => exact .inl rfl
  | some g =>
    obtain ⟨o, h1, h2⟩ := own_cells ho hgb
    exact .inr (hne g o h1 h2)

theorem keeps_of {W W' : World} {F : Nat → Prop} (h : Fr F W W') (hc : ∀ k o, F k → W.heap[k]? = some o → o.isCells = true) : KeepsOthers W W' :=
  ⟨h.size, fun k o hk ho => (h.block k (Array.getElem?_eq_some_iff.1 hk).1 (fun f => by have := hc k o f hk; rw [ho] at this; cases this)).trans hk⟩

/-- One round: a clone has been made, and is appended. -/
theorem pi_step {w W w1 : World} {Bo n1 : Nat} {ls : List (List UInt8)} {x : List UInt8} {v v1 : Value} {vs : List Value} {n : Nat} (hBo : Bo < n1) (hwBo : w.heap.size ≤ Bo) (hv : Blk W Bo 42 #[v]) (ho : W.ownsRow n1 23 1 v n vs) (hnl : ls.length = n) (hr : RowsV W vs ls) (hB : Below w.heap.size w W) (hn1 : n1 ≤ W.heap.size)
    (hb1 : Below W.heap.size W w1) (hx : RowV w1 v1 x) (hlen : n ≤ 1000000) :
    ∃ g cap w2, (Builtin.append_ #[42, 42] 42 #[v, .slice (some ⟨w1.heap.size, 0, none⟩) 1 1]).run Try.prog (w1.alloc (.cells #[v1] 23)) = .ok (.slice (some ⟨g, 0, none⟩) (n + 1) cap) w2 ∧
      w1.cell? ⟨Bo, 0, none⟩ = some v ∧ Bo < w1.heap.size ∧ w2.cell? ⟨Bo, 0, none⟩ = some v ∧ w2.frozen? ⟨Bo, 0, none⟩ = false ∧ Bo < w2.heap.size ∧
      PI w Bo n1 (ls ++ [x]) (w2.setCell ⟨Bo, 0, none⟩ (.slice (some ⟨g, 0, none⟩) (n + 1) cap)) ∧ KeepsOthers W (w2.setCell ⟨Bo, 0, none⟩ (.slice (some ⟨g, 0, none⟩) (n + 1) cap)) ∧ KpC n1 Bo W (w2.setCell ⟨Bo, 0, none⟩ (.slice (some ⟨g, 0, none⟩) (n + 1) cap)) := by
  have hb1' : Below W.heap.size W (w1.alloc (.cells #[v1] 23)) := below_step hb1 (below_alloc _ _)
  have ho1 : (w1.alloc (.cells #[v1] 23)).ownsRow n1 23 1 v n vs := ho.kept (grown_of_below hb1' none) (by cases v.ownBlock <;> simp)
  have hs1 : W.heap.size ≤ w1.heap.size := hb1.size
  have hone : v1.oneCell' = true := by obtain ⟨A, c, rfl, _⟩ := hx; rfl
  obtain ⟨v', w2, hrun, ho2, hg2, hw2⟩ := run_append_cs (P := Try.prog) (w1.alloc (.cells #[v1] 23)) listsT 42 n1 v n vs ho1 (some ⟨w1.heap.size, 0, none⟩) 1 1 [v1] rfl
    (.inr ⟨_, rfl, fun j u hu => by
      rcases j with _ | j
      · have e0 : v1 = u := by simpa using hu
        subst e0; rw [Addr.add_lit]; exact (Blk.new w1 23 #[v1]).cell 0
      · simp at hu⟩) (fun u hu => by simp at hu; subst hu; exact hone) (by unfold maxLen; omega) (by omega) (by simp; omega)
  obtain ⟨g, cap, rfl, _, _⟩ := ho2.form (by omega)
  have hvB : ∀ k, v.ownBlock = some k → n1 ≤ k := fun k hk => (World.ownsRow.lt ho k hk).1
  have hBv : some Bo ≠ v.ownBlock := fun e => by have := hvB Bo e.symm; omega
  have hv1 : Blk w1 Bo 42 #[v] := hv.keep hb1
  have hv2 : Blk w2 Bo 42 #[v] := (hv1.alloc _).grown hg2 hBv
  have hgn : n1 ≤ g := (World.ownsRow.lt ho2 g rfl).1
  have hfr : Fr (fun k => k = Bo ∨ some k = v.ownBlock) W (w2.setCell ⟨Bo, 0, none⟩ (.slice (some ⟨g, 0, none⟩) (n + 1) cap)) :=
    ((Fr.of_below hb1' _).same (Fr.of_grown hg2 (fun k e _ => .inr e.symm))).same (Fr.setCell _ w2 (p := ⟨Bo, 0, none⟩) (fun _ => .inl rfl) _)
  refine ⟨g, cap, w2, hrun, hv1.cell 0, hv1.lt, hv2.cell 0, hv2.frozen 0, hv2.lt, ⟨⟨_, vs ++ [v1], hv2.set_ 0 _, ?_, ?_⟩, hB.trans (hfr.below hB.size (fun k hk => ?_)), ?_⟩, keeps_of hfr ?_, hfr.weak (fun k _ hk => ?_)⟩
  · rw [show (ls ++ [x]).length = n + 1 by simp [hnl]]
    refine ho2.kept (grown_setCell (grown_refl w2 (some Bo)) (p := ⟨Bo, 0, none⟩) (.inl rfl) _) (.inr ?_)
    intro e
    obtain rfl : g = Bo := by simpa [Value.ownBlock] using e
    omega
  · have hk1 : ∀ (b : Nat) cs fr, w1.heap[b]? = some (Obj.cells cs 5 fr) → (w2.setCell ⟨Bo, 0, none⟩ (.slice (some ⟨g, 0, none⟩) (n + 1) cap)).heap[b]? = w1.heap[b]? := by
      intro b cs fr hh
      have hlt := (Array.getElem?_eq_some_iff.1 hh).1
      have hnB : b ≠ Bo := fun e => by subst e; exact blk_u8 hv1 (by decide) hh
      have hnv : some b ≠ v.ownBlock := fun e => own_u8 (ho.kept (grown_of_below hb1 none) (by cases v.ownBlock <;> simp)) (by decide) e.symm hh
      rw [Below.heap_setCell w2 ⟨Bo, 0, none⟩ _ b hnB, hg2.block b (by simp; omega) hnv, Below.heap_alloc w1 _ b hlt]
    exact (RowsV.snoc (hr.keep fun b cs fr hh => hb1.block b (Array.getElem?_eq_some_iff.1 hh).1) hx).keep hk1
  · rcases hk with rfl | hk
    · exact hwBo
    · have := hvB k hk.symm; omega
  · have := hg2.size
    simp [World.setCell] at this ⊢
    omega
  · rintro k o (rfl | hk) hh
    · unfold Blk at hv
      rw [hv] at hh
      injection hh with hh
      rw [← hh]
      rfl
    · obtain ⟨o', h1, h2⟩ := own_cells ho hk.symm
      rw [h1] at hh
      injection hh with hh
      rw [← hh]
      exact h2
  · rcases hk with rfl | hk
    · exact .inl rfl
    · exact .inr (hvB k hk.symm)
end Go.Proofs.Ythdhinhedgcbcaa
