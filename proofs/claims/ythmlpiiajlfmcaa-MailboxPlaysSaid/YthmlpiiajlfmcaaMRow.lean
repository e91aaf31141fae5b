/- Rows of terms of the call's own: an element more, stored cell by cell; an append's step in a region. -/
import Derived.Test.YthmlpiiajlfmcaaMBox
namespace Go.Proofs.Ythmlpiiajlfmcaa
open Go.RowKit
set_option linter.unusedVariables false

theorem termsT : ElT Try.prog 23 35 (.agg #[.int .i64 0, .int .i64 0, .string ⟨#[]⟩, .slice none 0 0]) 4 56 := ⟨Try.underlying23, by kernel_rfl, rfl, by omega⟩
/-- Four cells stored. -/
def set4 (V : World) (g o : Nat) (v0 v1 v2 v3 : Value) : World := (((V.setCell ⟨g, o, none⟩ v0).setCell ⟨g, o + 1, none⟩ v1).setCell ⟨g, o + 2, none⟩ v2).setCell ⟨g, o + 3, none⟩ v3
theorem set4_blk {V : World} {g : Nat} {t : TypeId} {cs : Array Value} (h : Blk V g t cs) (o : Nat) (v0 v1 v2 v3 : Value) : Blk (set4 V g o v0 v1 v2 v3) g t ((((cs.setIfInBounds o v0).setIfInBounds (o + 1) v1).setIfInBounds (o + 2) v2).setIfInBounds (o + 3) v3) := (((h.set_ o v0).set_ (o + 1) v1).set_ (o + 2) v2).set_ (o + 3) v3
theorem set4_fr (V : World) (g o : Nat) (v0 v1 v2 v3 : Value) : Fr (fun k => k = g) V (set4 V g o v0 v1 v2 v3) :=
  (((Fr.setCell (fun k => k = g) V (p := ⟨g, o, none⟩) (fun _ => rfl) v0).same (Fr.setCell (fun k => k = g) _ (p := ⟨g, o + 1, none⟩) (fun _ => rfl) v1)).same (Fr.setCell (fun k => k = g) _ (p := ⟨g, o + 2, none⟩) (fun _ => rfl) v2)).same (Fr.setCell (fun k => k = g) _ (p := ⟨g, o + 3, none⟩) (fun _ => rfl) v3)
theorem set_four (xs : List Value) (a b c d v0 v1 v2 v3 : Value) : (((((xs ++ [a, b, c, d]).set xs.length v0).set (xs.length + 1) v1).set (xs.length + 2) v2).set (xs.length + 3) v3) = xs ++ [v0, v1, v2, v3] := by
  simp
theorem own_store4 {V : World} {base n cap g : Nat} {e : TypeId} {xs : List Value} {a b c d v0 v1 v2 v3 : Value} (ho : V.ownsRow base e 4 (.slice (some ⟨g, 0, none⟩) (n + 1) cap) (n + 1) (xs ++ [a, b, c, d])) (hx : xs.length = n * 4) :
    (set4 V g (n * 4) v0 v1 v2 v3).ownsRow base e 4 (.slice (some ⟨g, 0, none⟩) (n + 1) cap) (n + 1) (xs ++ [v0, v1, v2, v3]) := by
  rcases ho.2 with ⟨hv, _⟩ | ⟨g', cap', cur, hv, hb, hg, hnc, hcm, hsz, htk⟩
  · cases hv
  · obtain ⟨e1, _, rfl⟩ := Value.slice.inj hv
    injection e1 with e1
    injection e1 with e1
    subst e1
    refine ⟨by simp [hx]; omega, .inr ⟨g, cap, _, rfl, hb, set4_blk hg (n * 4) v0 v1 v2 v3, hnc, hcm, by simp [hsz], ?_⟩⟩
    simp only [Array.toList_setIfInBounds, List.take_set]
    rw [htk, ← hx]
    exact set_four xs a b c d v0 v1 v2 v3

/-- append in a region, by its run. -/
theorem step_app {P : Program} {V V' : World} {ops : Array Oper} {o : Oper} {a : Act} {K : Act → World → Prop} {Q : Exit → Act → World → Prop} {E : Prop} (hw : Region.wanted o (yielded ops a.tmps) = true) (s x : Operand) (t : TypeId)
    (ho : o.op = .call { callee := .builtin .append, args := #[s, x], argTypes := #[t, t] }) (v u v' : Value) (hs : a.eval s = v) (hx : a.eval x = u) (hrun : (Builtin.append_ #[t, t] o.type #[v, u]).run P V = .ok v' V') (h : K (a.put o.dst v') V') :
    if Region.wanted o (yielded ops a.tmps) = true then Oper.wp P o a V K Q else E := by
  rw [if_pos hw]
  unfold Oper.wp execOp
  simp only [ho, resolve, invoke, builtin, Sem.run_bind, Sem.run_pure, Result.andThen_ok, List.map_toArray, List.map_cons, List.map_nil, hs, hx, hrun]
  exact h

section
variable {w0 : World}
/-- One term more: the append. -/
theorem own_more {V : World} {n cap : Nat} {A : Option Addr} {es : List (TE w0)} (base : Nat) (ho : V.ownsRow base 35 4 (.slice A n cap) n (cellsL es)) (hn : n ≤ 1000000) (hb : base ≤ V.heap.size) :
    ∃ g cap' V2, (Builtin.append_ #[23, 23] 23 #[.slice A n cap, .slice (some ⟨V.heap.size, 0, none⟩) 1 1]).run Try.prog (V.alloc (.cells zero4.toArray 35)) = .ok (.slice (some ⟨g, 0, none⟩) (n + 1) cap') V2 ∧
      V2.ownsRow base 35 4 (.slice (some ⟨g, 0, none⟩) (n + 1) cap') (n + 1) (cellsL es ++ zero4) ∧ (V.alloc (.cells zero4.toArray 35)).grownBy V2 (Value.slice A n cap).ownBlock ∧ ((Value.slice A n cap).ownBlock = some g ∨ g = V.heap.size + 1) ∧
      (∀ i, i < 4 → (V2.cell? ⟨g, n * 4 + i, none⟩).isSome = true) ∧ (∀ i, V2.frozen? ⟨g, i, none⟩ = false) := by
  have hz : ∀ u ∈ zero4, u.oneCell' = true := by
    intro u hu
    simp only [zero4, List.mem_cons, List.mem_nil_iff, or_false] at hu
    rcases hu with rfl | rfl | rfl | rfl <;> rfl
  obtain ⟨v', V2, hrun, ho2, hg2, hw2⟩ := run_append_cs (P := Try.prog) (V.alloc (.cells zero4.toArray 35)) termsT 23 base (.slice A n cap) n (cellsL es) (ho.alloc _) (some ⟨V.heap.size, 0, none⟩) 1 1 zero4 rfl
    (.inr ⟨_, rfl, fun j u hu => by rw [Addr.add_lit, Nat.zero_add, (Blk.new V 35 zero4.toArray).cell]; simpa using hu⟩) hz (by unfold maxLen; omega) (by omega) (by simp; omega)
  obtain ⟨g, cap', rfl, _, _⟩ := ho2.form (by omega)
  refine ⟨g, cap', V2, hrun, ho2, hg2, ?_, ?_, ?_⟩
  · rcases hw2 with h | h
    · exact .inl h.symm
    · exact .inr (by simpa [Value.ownBlock] using h)
  · intro i hi
    have hxl : (cellsL es).length = n * 4 := by have := ho.1; omega
    have hlt : n * 4 + i < (cellsL es ++ zero4).length := by simp [hxl, zero4]; omega
    have := ho2.cells (g := g) rfl (n * 4 + i) ((cellsL es ++ zero4)[n * 4 + i]'hlt) (by rw [List.getElem?_eq_getElem hlt])
    rw [Addr.add_lit, Nat.zero_add] at this
    rw [this]
    rfl
  · intro i
    rcases ho2.2 with ⟨hv, _⟩ | ⟨g', cap'', cur, hv, _, hh, _⟩
    · cases hv
    · obtain ⟨e1, _, _⟩ := Value.slice.inj hv
      injection e1 with e1
      injection e1 with e1
      subst e1
      exact Blk.frozen hh i
end
end Go.Proofs.Ythmlpiiajlfmcaa
