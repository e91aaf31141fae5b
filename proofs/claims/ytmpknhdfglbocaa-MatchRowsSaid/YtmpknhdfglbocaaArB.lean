/- Arith (layer 14): slices.Clone of terms, Tuple; Elements; what compares. -/
import Derived.Test.YtmpknhdfglbocaaArA
namespace Go.Proofs.Ytmpknhdfglbocaa
open Go.RowKit
set_option linter.unusedVariables false

section
variable {W V V' : World} {u u' : Value} {t t' : TV}
/-- A slice of terms. -/
def LVal (V : World) (u : Value) (l : List TV) : Prop := ∃ A n c, u = .slice A n c ∧ l.length = n ∧ RdM V A c l
theorem LVal.below {l : List TV} (h : LVal V u l) (hb : Below V.heap.size V V') : LVal V' u l := by
  obtain ⟨A, n, c, h1, h2, h3⟩ := h
  exact ⟨A, n, c, h1, h2, h3.below hb⟩
theorem LVal.kept {l : List TV} (h : LVal V u l) (hk : Kept V V') : LVal V' u l := by
  obtain ⟨A, n, c, h1, h2, h3⟩ := h
  exact ⟨A, n, c, h1, h2, h3.kept hk⟩
/-- .. whatever becomes of the blocks X. -/
def LEx (X : Nat → Prop) (V : World) (u : Value) (l : List TV) : Prop := LVal (ers X V) u l
theorem LEx.val {X : Nat → Prop} {l : List TV} (h : LEx X V u l) : LVal V u l := LVal.kept h (kept_ers X V)
theorem LEx.step {X Y : Nat → Prop} {l : List TV} (h : LEx X V u l) (hf : Fr Y V V') (hY : ∀ k, k < V.heap.size → Y k → X k) : LEx X V' u l := LVal.kept h (kept_step hf hY (fun _ _ h => h))
theorem LEx.below {X : Nat → Prop} {l : List TV} (h : LEx X V u l) (hb : Below V.heap.size V V') : LEx X V' u l := h.step (Fr.of_below hb X) (fun _ _ h => h)
theorem LEx.weak {X Y : Nat → Prop} {l : List TV} (h : LEx X V u l) (hY : ∀ k, k < V.heap.size → Y k → X k) : LEx Y V u l := LVal.kept h (kept_step (Fr.refl X V) (fun _ _ h => h) hY)
theorem lex_old {w0 : World} {X : Nat → Prop} {l : List TV} (hW : Below w0.heap.size w0 V) (h : LVal w0 u l) (hX : ∀ k, X k → w0.heap.size ≤ k) : LEx X V u l := h.kept (kept_old hW hX)
theorem LEx.form {X : Nat → Prop} {l : List TV} (h : LEx X V u l) : ∃ A n c, u = .slice A n c ∧ l.length = n ∧ n ≤ c ∧ c ≤ 9223372036854775807 := by
  obtain ⟨A, n, c, h1, h2, h3⟩ := h
  exact ⟨A, n, c, h1, h2, by have := h3.1; omega, h3.2.1⟩
/-- An element of a slice of terms. -/
theorem LEx.item {X : Nat → Prop} {l : List TV} {A : Option Addr} {n c : Nat} (h : LEx X V (.slice A n c) l) {j : Nat} (hj : j < l.length) : ∃ b o A' n' c', A = some ⟨b, o, none⟩ ∧ V.cell? ⟨b, o + j * 4, none⟩ = some (.int .i64 l[j].kind) ∧ V.cell? ⟨b, o + j * 4 + 1, none⟩ = some (.int .i64 l[j].int) ∧ V.cell? ⟨b, o + j * 4 + 2, none⟩ = some (.string ⟨l[j].name.toArray⟩) ∧ V.cell? ⟨b, o + j * 4 + 3, none⟩ = some (.slice A' n' c') ∧ l[j].items.length = n' ∧ TEx X V (.agg #[.int .i64 l[j].kind, .int .i64 l[j].int, .string ⟨l[j].name.toArray⟩, .slice A' n' c']) l[j] := by
  obtain ⟨A0, n0, c0, e, h2, h3⟩ := h
  obtain ⟨rfl, rfl, rfl⟩ := Value.slice.inj e
  obtain ⟨b, o, A', c', hA, e0, e1, e2, e3, hR⟩ := h3.item hj
  exact ⟨b, o, A', _, c', hA, ((ers_cell _ _ _).1 e0).2, ((ers_cell _ _ _).1 e1).2, ((ers_cell _ _ _).1 e2).2, ((ers_cell _ _ _).1 e3).2, rfl, A', _, c', rfl, rfl, hR⟩
/-- A term's items. -/
theorem TEx.items {X : Nat → Prop} {k n : Int} {s : List UInt8} {A : Option Addr} {m c : Nat} (h : TEx X V (.agg #[.int .i64 k, .int .i64 n, .string ⟨s.toArray⟩, .slice A m c]) t) : LEx X V (.slice A m c) t.items := by
  obtain ⟨A', n', c', e, hn, hR⟩ := h
  simp only [Value.agg.injEq, Array.mk.injEq, List.cons.injEq, Value.slice.injEq, and_true] at e
  obtain ⟨_, _, _, rfl, rfl, rfl⟩ := e
  exact ⟨A, m, c, rfl, hn, hR⟩
theorem lval_nil (V : World) : LVal V (.slice none 0 0) [] := ⟨none, 0, 0, rfl, rfl, rdM_nil _ _ _ (by omega)⟩
/-- Each term's four cells. -/
def StdE (V : World) (cs : List Value) (l : List TV) : Prop := ∀ j, (h : j < l.length) → ∃ (k n : Int) (s : List UInt8) (A : Option Addr) (m c : Nat), cs[j * 4]? = some (.int .i64 k) ∧ cs[j * 4 + 1]? = some (.int .i64 n) ∧ cs[j * 4 + 2]? = some (.string ⟨s.toArray⟩) ∧ cs[j * 4 + 3]? = some (.slice A m c) ∧ TVal V (.agg #[.int .i64 k, .int .i64 n, .string ⟨s.toArray⟩, .slice A m c]) l[j]
/-- Cells that stand for terms wherever they are copied to. -/
def Std (V : World) (cs : List Value) (l : List TV) : Prop := cs.length = l.length * 4 ∧ (∀ u ∈ cs, u.oneCell' = true) ∧ StdE V cs l
theorem row_of_at : ∀ {l : List TV} {b o : Nat}, (∀ k, (h : k < l.length) → l[k].At V b (o + k * 4)) → TV.Row V l b o
  | [], b, o, _ => by simp [TV.Row]
  | t :: r, b, o, h => by
    simp only [TV.Row]
    refine ⟨by have := h 0 (by simp); rw [Nat.zero_mul, Nat.add_zero] at this; exact this, row_of_at fun k hk => ?_⟩
    have := h (k + 1) (by simp; omega)
    rw [show o + (k + 1) * 4 = o + 4 + k * 4 by omega] at this
    exact this
theorem Std.row {cs : List Value} {l : List TV} (h : Std V cs l) (V2 : World) (g o' : Nat) (hk : Kept V V2) (hc : ∀ j, (h : j < cs.length) → V2.cell? ⟨g, o' + j, none⟩ = some cs[j]) : TV.Row V2 l g o' := row_of_at fun j hj => by
  obtain ⟨k, n, s, A, m, c, e0, e1, e2, e3, hT⟩ := h.2.2 j hj
  have hh : ∀ i u, cs[i]? = some u → V2.cell? ⟨g, o' + i, none⟩ = some u := fun i u hu => by
    obtain ⟨hlt, rfl⟩ := List.getElem?_eq_some_iff.1 hu
    exact hc i hlt
  exact tval_at (hT.kept hk) (hh _ _ e0) (by rw [Nat.add_assoc]; exact hh _ _ e1) (by rw [Nat.add_assoc]; exact hh _ _ e2) (by rw [Nat.add_assoc]; exact hh _ _ e3)
theorem Std.kept {cs : List Value} {l : List TV} (h : Std V cs l) (hk : Kept V V') : Std V' cs l := by
  refine ⟨h.1, h.2.1, fun j hj => ?_⟩
  obtain ⟨k, n, s, A, m, c, e0, e1, e2, e3, hT⟩ := h.2.2 j hj
  exact ⟨k, n, s, A, m, c, e0, e1, e2, e3, hT.kept hk⟩
theorem std_nil (V : World) : Std V [] [] := ⟨rfl, by simp, fun j hj => by simp at hj⟩
theorem Std.append {cs cs' : List Value} {l l' : List TV} (h : Std V cs l) (h' : Std V cs' l') : Std V (cs ++ cs') (l ++ l') := by
  have h1 := h.1
  refine ⟨by simp [h.1, h'.1]; omega, fun u hu => ?_, fun j hj => ?_⟩
  · rcases List.mem_append.1 hu with hu | hu
    · exact h.2.1 u hu
    · exact h'.2.1 u hu
  · by_cases hl : j < l.length
    · obtain ⟨k, n, s, A, m, c, e0, e1, e2, e3, hT⟩ := h.2.2 j hl
      rw [List.getElem_append_left hl]
      exact ⟨k, n, s, A, m, c, by rw [List.getElem?_append_left (by omega)]; exact e0, by rw [List.getElem?_append_left (by omega)]; exact e1, by rw [List.getElem?_append_left (by omega)]; exact e2, by rw [List.getElem?_append_left (by omega)]; exact e3, hT⟩
    · have hj2 : j - l.length < l'.length := by simp at hj; omega
      obtain ⟨k, n, s, A, m, c, e0, e1, e2, e3, hT⟩ := h'.2.2 (j - l.length) hj2
      rw [List.getElem_append_right (by omega)]
      exact ⟨k, n, s, A, m, c, by rw [List.getElem?_append_right (by omega), show j * 4 - cs.length = (j - l.length) * 4 by omega]; exact e0, by rw [List.getElem?_append_right (by omega), show j * 4 + 1 - cs.length = (j - l.length) * 4 + 1 by omega]; exact e1, by rw [List.getElem?_append_right (by omega), show j * 4 + 2 - cs.length = (j - l.length) * 4 + 2 by omega]; exact e2, by rw [List.getElem?_append_right (by omega), show j * 4 + 3 - cs.length = (j - l.length) * 4 + 3 by omega]; exact e3, hT⟩
theorem std_one {k n : Int} {s : List UInt8} {A : Option Addr} {m c : Nat} (hu : TVal V (.agg #[.int .i64 k, .int .i64 n, .string ⟨s.toArray⟩, .slice A m c]) t) : Std V [.int .i64 k, .int .i64 n, .string ⟨s.toArray⟩, .slice A m c] [t] := by
  refine ⟨rfl, fun u hu => ?_, fun j hj => ?_⟩
  · simp only [List.mem_cons, List.mem_nil_iff, or_false] at hu
    rcases hu with rfl | rfl | rfl | rfl <;> rfl
  · obtain rfl : j = 0 := by simp at hj; omega
    exact ⟨k, n, s, A, m, c, rfl, rfl, rfl, rfl, hu⟩
/-- The cells of a slice of terms. -/
theorem rdM_std {A : Option Addr} {c : Nat} {l : List TV} (h : RdM V A c l) : ∃ cs, Std V cs l ∧ Cs V A cs := by
  rcases h.2.2 with rfl | ⟨b, o, rfl, hr⟩
  · exact ⟨[], std_nil V, .inl rfl⟩
  · obtain ⟨cs, c1, c2, c3, c4⟩ := row_cells hr
    refine ⟨cs, ⟨c1, c2, fun j hj => ?_⟩, .inr ⟨⟨b, o, none⟩, rfl, fun j u hj => ?_⟩⟩
    · obtain ⟨A, n, c, e0, e1, e2, e3, hn, hR⟩ := at_tval (row_at hr hj)
      have hh : ∀ i u, i < cs.length → V.cell? ⟨b, o + i, none⟩ = some u → cs[i]? = some u := fun i u hi h => by
        rw [c3 i hi] at h
        rw [List.getElem?_eq_getElem hi]
        exact h
      exact ⟨_, _, l[j].name, A, n, c, hh _ _ (by omega) e0, hh _ _ (by omega) (by rw [← Nat.add_assoc]; exact e1), hh _ _ (by omega) (by rw [← Nat.add_assoc]; exact e2), hh _ _ (by omega) (by rw [← Nat.add_assoc]; exact e3), A, n, c, rfl, hn, hR⟩
    · obtain ⟨hlt, rfl⟩ := List.getElem?_eq_some_iff.1 hj
      rw [Addr.add_lit]
      exact c3 j hlt
/-- A row of terms of the call's own. -/
theorem lex_own {X : Nat → Prop} {base n : Nat} {cs : List Value} {l : List TV} (ho : V.ownsRow base 37 4 u n cs) (hX : ∀ k, X k → k < base) (hs : Std (ers X V) cs l) : LEx X V u l ∧ l.length = n := by
  have hl : l.length = n := by have h1 := ho.1; have h2 := hs.1; omega
  refine ⟨?_, hl⟩
  rcases ho.2 with ⟨rfl, hz⟩ | ⟨g, cap, cur, rfl, hbg, hg, hnc, hcm, hsz, htake⟩
  · exact ⟨none, 0, 0, rfl, by omega, by rw [List.eq_nil_of_length_eq_zero (show l.length = 0 by omega)]; exact rdM_nil _ _ _ (by omega)⟩
  · refine ⟨_, n, cap, rfl, hl, by omega, by unfold maxLen at hcm; exact hcm, .inr ⟨g, 0, rfl, hs.row _ g 0 (fun _ _ => rfl) fun j hj => ?_⟩⟩
    have hc := ho.cells (g := g) rfl j cs[j] (by rw [List.getElem?_eq_getElem hj])
    rw [Addr.add_lit] at hc
    exact (ers_cell _ _ _).2 ⟨fun h9 => by have := hX _ h9; simp only at this; omega, hc⟩

/-- A block of no cells that grows: what was there stays. -/
theorem kept_grow {X : Nat → Prop} {ty : Nat} {g : Nat} (hB : Blk V g ty #[]) (hg : V.grownBy V' (some g)) : Kept (ers X V) (ers X V') := kept_of fun p v hp => by
  obtain ⟨h1, h2⟩ := (ers_cell X V p).1 hp
  refine (ers_cell X V' p).2 ⟨h1, ?_⟩
  have hlt := World.block_lt_of_cell? V p h2
  by_cases e : p.block = g
  · exfalso
    unfold World.cell? at h2
    unfold Blk at hB
    rw [e, hB] at h2
    simp at h2
  · exact (World.cell?_of_block (hg.block p.block hlt (fun h => e (Option.some.inj h)))).trans h2
/-- What a function that makes a slice of terms leaves. -/
def RL (X : Nat → Prop) (W : World) (l : List TV) (e : Ending) (w' : World) : Prop := ∃ u, e = .returned u ∧ LEx X w' u l ∧ Below W.heap.size W w'
end
end Go.Proofs.Ytmpknhdfglbocaa
