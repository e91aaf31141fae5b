/- Heap (layer 9): every term's word; Lay. -/
import Derived.Test.YtefnjplfemgibaaHpD
import Derived.Test.YtefnjplfemgibaaTermK
namespace Go.Proofs.Ytefnjplfemgibaa
open Go.RowKit Go.Maps
set_option linter.unusedVariables false

section
variable {w0 W V V' : World} {F F2 : Nat → Prop} {pm b1 b2 : Nat} {st : HSt} {rs : Value × List Nat}
theorem mword_any (N : Nat) : ∀ (t : TV) (A : Option Addr) (c : Nat) (st : HSt) (F : Nat → Prop) (W : World), t.parts ≤ N → t.parts ≤ 10000 → t.isT = true → RdM w0 A c t.items → MK w0 W F pm b1 b2 st rs → HOk st → st.ws.length + 3 * t.parts ≤ 100000 → st.nm.length + t.parts ≤ 100000 → st.cs.length + t.parts ≤ 100000 →
    Calls Try.prog 33 #[.pointer (some ⟨pm, 0, none⟩), .agg #[.int .i64 t.kind, .int .i64 t.int, .string ⟨t.name.toArray⟩, .slice A t.items.length c]] W (MEnd w0 W F pm b1 b2 (wordS st t) rs) := by
  induction N with
  | zero => intro t _ _ _ _ _ h; have := t.parts_pos; omega
  | succ N ih =>
    intro t A c st F W hN h4 hT hR hM hok hz1 hz2 hz3
    rw [TV.isT_eq, Bool.and_eq_true] at hT
    have hp := t.parts_eq
    have hlp := len_parts t.items
    rw [wordS_eq]
    rw [hp] at hz1 hz2 hz3
    refine word_loop t.kind t.int t.name t.items A t.items.length c st F W rfl (by omega) hT.1 hT.2 hR hM hok hz1 hz2 hz3 ?_
    intro i h A' c' st' F' W' hR' hM' hok' g1 g2 g3
    have hpi := parts_item t.items i h
    have hTi : t.items[i].isT = true := by
      cases h9 : t.items[i].isT with
      | true => rfl
      | false => have := isL_no t.items i h h9; rw [this] at hT; cases hT.2
    exact ih t.items[i] A' c' st' F' W' (by omega) (by omega) hTi hR' hM' hok' g1 g2 g3
end
section
variable {w0 W V V' : World} {F F2 : Nat → Prop} {pm b1 b2 : Nat} {vw va vr : Value} {st : HSt} {na : List (List UInt8)} {rs : List Nat}
/-- The field of the roots is another row. -/
theorem MKp.setR (h : MKp w0 W F pm b1 b2 vw va vr st na rs) {v' : Value} {rs' : List Nat} (ho : V.ownsRow w0.heap.size 34 1 v' rs'.length (rs'.map nv)) (hg : W.grownBy V vr.ownBlock) (hat : v'.ownBlock = vr.ownBlock ∨ v'.ownBlock = some W.heap.size) :
    MKp w0 (V.setCell ⟨pm, 2, none⟩ v') (fun k => F k ∨ v'.ownBlock = some k) pm b1 b2 vw va v' st na rs' ∧ Fr F W (V.setCell ⟨pm, 2, none⟩ v') := by
  obtain ⟨p1, p2, aw, aa, ar⟩ := h.apart
  have hpl := h.obj.lt
  have hout : ∀ k, F k → vr.ownBlock ≠ some k → k ≠ pm → (V.setCell ⟨pm, 2, none⟩ v').heap[k]? = W.heap[k]? := fun k hk h1 h2 =>
    (Below.heap_setCell V ⟨pm, 2, none⟩ v' k (fun e => h2 e)).trans (hg.block k (h.fresh k hk).2 (fun e => h1 e.symm))
  have hv' : ∀ k, v'.ownBlock = some k → k ≠ pm ∧ (vr.ownBlock = some k ∨ k = W.heap.size) := fun k hk => by
    rcases hat with h1 | h1
    · rw [h1] at hk
      exact ⟨(ar k hk).1, .inl hk⟩
    · rw [h1] at hk
      obtain rfl := Option.some.inj hk
      exact ⟨by omega, .inr rfl⟩
  have hfr : Fr F W (V.setCell ⟨pm, 2, none⟩ v') := (Fr.of_grown hg fun k hk _ => h.fr k hk).same (Fr.setCell F V (p := ⟨pm, 2, none⟩) (fun _ => h.fpm) v')
  have hob : Blk V pm 70 #[vw, va, vr, .map (some b1), .map (some b2)] := h.obj.grown hg (fun e => (ar pm e.symm).1 rfl)
  have hsz : (V.setCell ⟨pm, 2, none⟩ v').heap.size = V.heap.size := by simp [World.setCell]
  obtain ⟨L1, ⟨e1, c1, m1, r1⟩, g1⟩ := h.cm
  obtain ⟨L2, ⟨e2, c2, m2, r2⟩, g2⟩ := h.am
  refine ⟨?_, hfr⟩
  exact {
    old := h.old.trans (hfr.below h.old.size fun k hk => (h.fresh k hk).1)
    fresh := fun k hk => by
      rcases hk with hk | hk
      · exact ⟨(h.fresh k hk).1, Nat.lt_of_lt_of_le (h.fresh k hk).2 hfr.size⟩
      · obtain ⟨a, b, _⟩ := own_heap ho hk
        exact ⟨a, by rw [hsz]; exact b⟩
    obj := hob.set_ 2 v'
    rw := own_at h.rw fun k hk => hout k (h.fw k hk) (h.nwr k hk) (aw k hk).1
    ra := own_at h.ra fun k hk => hout k (h.fa k hk) (aa k hk).2.2.2 (aa k hk).1
    rr := own_at ho fun k hk => Below.heap_setCell V ⟨pm, 2, none⟩ v' k (fun e => (hv' k hk).1 e)
    cm := ⟨L1, ⟨e1, c1, (hout b1 h.fb1 (fun e => (ar b1 e).2.1 rfl) (Ne.symm p1)).trans m1, r1⟩, g1⟩
    am := ⟨L2, ⟨e2, c2, (hout b2 h.fb2 (fun e => (ar b2 e).2.2 rfl) (Ne.symm p2)).trans m2, r2⟩, g2⟩
    fpm := .inl h.fpm
    fb1 := .inl h.fb1
    fb2 := .inl h.fb2
    fw := fun k hk => .inl (h.fw k hk)
    fa := fun k hk => .inl (h.fa k hk)
    fr := fun k hk => .inr hk
    ne := h.ne
    nwr := fun k hk h9 => by
      rcases (hv' k h9).2 with h1 | rfl
      · exact h.nwr k hk h1
      · exact Nat.lt_irrefl _ (own_heap h.rw hk).2.1 }
end
end Go.Proofs.Ytefnjplfemgibaa
