/- A region that draws its order, by an invariant of what has come up: each operation that may come up keeps it. No program is named here. Heap (layer 9): own: a heap's three slices anew, whatever order is drawn. Heap (layer 9): own, the walk. Written by hqgenk.py. -/
import Derived.Test.YtefnjplfemgibaaOrd
import Derived.Test.YtefnjplfemgibaaHpO
namespace Go.Proofs.Ytefnjplfemgibaa
section
open Go.RowKit
set_option linter.unusedVariables false

section
variable {P : Program} {ops : Array Oper} {Q : Exit → Act → World → Prop} {md : Region.Mode}
/-- How many have not come up. -/
def unlisted (l : Array Bool) : Nat := l.toList.countP (fun b => !b)
theorem count_set : ∀ (l : List Bool) (i : Nat), l[i]? = some false → l.countP (fun b => !b) = (l.set i true).countP (fun b => !b) + 1
  | [], i, h => by simp at h
  | b :: r, 0, h => by
    simp only [List.getElem?_cons_zero, Option.some.injEq] at h
    subst h
    simp
  | b :: r, i + 1, h => by
    simp only [List.getElem?_cons_succ] at h
    rw [List.set_cons_succ, List.countP_cons, List.countP_cons, count_set r i h]
    omega
theorem unlisted_set {l : Array Bool} {i : Nat} (h : l.getD i true = false) : unlisted l = unlisted (l.setIfInBounds i true) + 1 := by
  have h2 : l.toList[i]? = some false := by
    rw [Array.getD_eq_getD_getElem?] at h
    cases e : l[i]? with
    | none => rw [e] at h; cases h
    | some b => rw [e] at h; simp only [Option.getD_some] at h; rw [← Array.getElem?_toList] at e; rw [e, h]
  unfold unlisted
  rw [Array.toList_setIfInBounds]
  exact count_set _ _ h2
theorem count_zero {l : Array Bool} (h : unlisted l = 0) (j : Nat) (hj : j < l.size) : l.getD j false = true := by
  unfold unlisted at h
  rw [List.countP_eq_zero] at h
  have h9 := h l[j] (Array.getElem_mem_toList ..)
  simp only [Bool.not_eq_eq_eq_not, Bool.not_true, Bool.not_eq_false] at h9
  simp [hj, h9]
/-- Each edge leads back. -/
def backB (md : Region.Mode) (ops : Array Oper) : Bool := (List.range ops.size).all fun i => ((ops[i]?).map (fun o => o.after.all fun e => !Region.binds md e || decide (e.on < i))).getD true
theorem least_ready (hb : backB md ops = true) {l : Array Bool} (hs : l.size = ops.size) (hr : Region.ready md ops l = []) : ∀ j, j < ops.size → l.getD j false = true := by
  intro j
  induction j using Nat.strongRecOn with
  | _ j ih =>
    intro hj
    cases hl : l.getD j false with
    | true => rfl
    | false =>
      exfalso
      have hmem : j ∈ Region.ready md ops l := by
        rw [mem_ready]
        refine ⟨?_, ops[j], Array.getElem?_eq_getElem hj, fun e he hbd => ?_⟩
        · have : j < l.size := by omega
          simp [this] at hl ⊢
          exact hl
        · unfold backB at hb
          rw [List.all_eq_true] at hb
          have h1 := hb j (List.mem_range.2 hj)
          rw [Array.getElem?_eq_getElem hj, Option.map_some, Option.getD_some, Array.all_eq_true_iff_forall_mem] at h1
          have h2 := h1 e he
          rw [hbd] at h2
          simp only [Bool.not_true, Bool.false_or, decide_eq_true_eq] at h2
          exact ih e.on h2 (by omega)
      rw [hr] at hmem
      cases hmem
theorem wpAny_inv (I : Array Bool → Act → World → Prop) (hb : backB md ops = true) (hsz : ∀ l a w, I l a w → l.size = ops.size)
    (hstep : ∀ l a w i, I l a w → i ∈ Region.ready md ops l → wpOp P ops Q i (fun a' w' => I (l.setIfInBounds i true) a' w') a w)
    (hend : ∀ l a w, I l a w → (∀ j, j < ops.size → l.getD j false = true) → Q .normal a w) :
    ∀ (fuel : Nat) (l : Array Bool) (a : Act) (w : World), I l a w → unlisted l ≤ fuel → wpAny P md ops Q fuel l a w
  | 0, l, a, w, hI, hu => by
    have h0 : ∀ j, j < ops.size → l.getD j false = true := fun j hj => count_zero (Nat.le_zero.1 hu) j (by rw [hsz l a w hI]; exact hj)
    refine ⟨?_, hend l a w hI h0⟩
    cases hr : Region.ready md ops l with
    | nil => rfl
    | cons i r =>
      exfalso
      have h1 := (mem_ready.1 (show i ∈ Region.ready md ops l by rw [hr]; simp))
      obtain ⟨h2, o, ho, _⟩ := h1
      have h3 := h0 i (Array.getElem?_eq_some_iff.1 ho).1
      have h4 : i < l.size := by rw [hsz l a w hI]; exact (Array.getElem?_eq_some_iff.1 ho).1
      simp [h4] at h2 h3
      rw [h2] at h3
      cases h3
  | fuel + 1, l, a, w, hI, hu => by
    refine ⟨fun hr => hend l a w hI (least_ready hb (hsz l a w hI) hr), fun i hi => ?_⟩
    have h2 := unlisted_set (mem_ready.1 hi).1
    exact wpOp_mono (fun a' w' h' => wpAny_inv I hb hsz hstep hend fuel _ a' w' h' (by omega)) (hstep l a w i hI hi)
theorem unlisted_none (n : Nat) : unlisted (Array.replicate n false) ≤ n := by
  unfold unlisted
  have := List.countP_le_length (p := fun b => !b) (l := (Array.replicate n false).toList)
  simpa using this
end
end
section
open Go.RowKit
set_option linter.unusedVariables false

def upd {α : Type} (f : Nat → α) (k : Nat) (v : α) : Nat → α := fun j => if j = k then v else f j
theorem upd_same {α : Type} {f : Nat → α} {k : Nat} {v : α} : upd f k v k = v := if_pos rfl
theorem upd_ne {α : Type} {f : Nat → α} {k j : Nat} {v : α} (h : j ≠ k) : upd f k v j = f j := if_neg h
def Lup (L : Nat → Prop) (i : Nat) : Nat → Prop := fun j => L j ∨ j = i
theorem Lup_ne {L : Nat → Prop} {i j : Nat} (h : j ≠ i) : Lup L i j ↔ L j := ⟨fun h1 => h1.resolve_right h, .inl⟩
/-- What stands when the operations of L have come up. -/
structure OI (W0 : World) (gh g : Nat) (S : Nat → Value) (E : Nat → TypeId) (N : Nat → Nat) (X : Nat → List Value) (L : Nat → Prop) (T : Nat → Value) (R : Nat → Value) (w : World) : Prop where
  old : Below W0.heap.size W0 w
  hg : W0.heap.size ≤ gh ∧ gh < g ∧ g < w.heap.size
  blk : Blk w gh 29 #[S 0, S 1, S 2]
  p1 : T 1 = .pointer (some ⟨gh, 0, none⟩)
  p2 : T 2 = .pointer (some ⟨g, 0, none⟩)
  own : ∀ c, c < 3 → ∃ m ys, w.ownsRow (g + 1) (E c) 1 (R c) m ys ∧ (L (4 * c + 3) → m = N c ∧ ys = X c ∧ T (4 * c + 6) = R c ∧ L (4 * c)) ∧ (L (4 * c) → ¬ L (4 * c + 3) → m = 0 ∧ ys = [] ∧ T (4 * c + 3) = R c)
  dis : ∀ c d, c < 3 → d < 3 → c ≠ d → ∀ k, (R c).ownBlock = some k → (R d).ownBlock ≠ some k
  adr : ∀ c, c < 3 → L (4 * c + 1) → T (4 * c + 4) = .pointer (some ⟨gh, c, none⟩)
  ld : ∀ c, c < 3 → L (4 * c + 2) → T (4 * c + 5) = S c
  bld : L 12 → (∀ c, c < 3 → L (4 * c + 3)) ∧ T 15 = .agg #[R 0, R 1, R 2]
  res : L 13 → L 12 ∧ Blk w g 29 #[R 0, R 1, R 2]
  res0 : ¬ L 13 → Blk w g 29 #[.slice none 0 0, .slice none 0 0, .slice none 0 0]
section
variable {W0 : World} {gh g : Nat} {S : Nat → Value} {E : Nat → TypeId} {N : Nat → Nat} {X : Nat → List Value} {L : Nat → Prop} {T R : Nat → Value} {w : World}
theorem OI.no12 (h : OI W0 gh g S E N X L T R w) {c : Nat} (hc : c < 3) (hn : ¬ L (4 * c + 3)) : ¬ L 12 := fun h9 => hn ((h.bld h9).1 c hc)
theorem OI.build (h : OI W0 gh g S E N X L T R w) {c : Nat} (hc : c < 3) (hn : ¬ L (4 * c)) : OI W0 gh g S E N X (Lup L (4 * c)) (upd T (4 * c + 3) (.slice (some ⟨w.heap.size, 0, none⟩) 0 0)) (upd R c (.slice (some ⟨w.heap.size, 0, none⟩) 0 0)) (w.alloc (.cells #[] (E c))) := by
  have hn3 : ¬ L (4 * c + 3) := fun h9 => by obtain ⟨m, ys, _, h2, _⟩ := h.own c hc; exact hn (h2 h9).2.2.2
  have h12 := h.no12 hc hn3
  exact {
    old := h.old.alloc h.old.size _
    hg := ⟨h.hg.1, h.hg.2.1, by simp; have := h.hg.2.2; omega⟩
    blk := h.blk.alloc _
    p1 := (upd_ne (by omega)).trans h.p1
    p2 := (upd_ne (by omega)).trans h.p2
    own := fun d hd => by
      by_cases hdc : d = c
      · subst hdc
        refine ⟨0, [], by rw [upd_same]; exact own_made (g + 1) _ 1 h.hg.2.2, fun h9 => ?_, fun _ _ => ⟨rfl, rfl, by rw [upd_same, upd_same]⟩⟩
        exact absurd ((Lup_ne (by omega)).1 h9) hn3
      · obtain ⟨m, ys, h1, h2, h3⟩ := h.own d hd
        refine ⟨m, ys, by rw [upd_ne hdc]; exact own_far h1 (below_alloc _ _), fun h9 => ?_, fun h8 h9 => ?_⟩
        · obtain ⟨a, b, c9, d9⟩ := h2 ((Lup_ne (by omega)).1 h9)
          exact ⟨a, b, by rw [upd_ne (by omega), upd_ne hdc]; exact c9, .inl d9⟩
        · obtain ⟨a, b, c9⟩ := h3 ((Lup_ne (by omega)).1 h8) (fun h7 => h9 (.inl h7))
          exact ⟨a, b, by rw [upd_ne (by omega), upd_ne hdc]; exact c9⟩
    dis := fun d e hd he hde k h1 h2 => by
      by_cases hdc : d = c
      · subst hdc
        rw [upd_same] at h1
        rw [upd_ne (Ne.symm hde)] at h2
        have hk : w.heap.size = k := Option.some.inj h1
        obtain ⟨m, ys, h3, _⟩ := h.own e he
        have := (own_heap h3 h2).2.1
        omega
      · rw [upd_ne hdc] at h1
        by_cases hec : e = c
        · subst hec
          rw [upd_same] at h2
          have hk : w.heap.size = k := Option.some.inj h2
          obtain ⟨m, ys, h3, _⟩ := h.own d hd
          have := (own_heap h3 h1).2.1
          omega
        · rw [upd_ne hec] at h2
          exact h.dis d e hd he hde k h1 h2
    adr := fun d hd h9 => (upd_ne (by omega)).trans (h.adr d hd ((Lup_ne (by omega)).1 h9))
    ld := fun d hd h9 => (upd_ne (by omega)).trans (h.ld d hd ((Lup_ne (by omega)).1 h9))
    bld := fun h9 => absurd ((Lup_ne (by omega)).1 h9) h12
    res := fun h9 => absurd (h.res ((Lup_ne (by omega)).1 h9)).1 h12
    res0 := fun h9 => (h.res0 (fun h8 => h9 (.inl h8))).alloc _ }
theorem OI.same (h : OI W0 gh g S E N X L T R w) {i : Nat} (hi : i ≠ 12 ∧ i ≠ 13 ∧ ∀ c, c < 3 → i ≠ 4 * c ∧ i ≠ 4 * c + 3) {k : Nat} {v : Value} (hk : k ≠ 1 ∧ k ≠ 2 ∧ k ≠ 15 ∧ ∀ c, c < 3 → k ≠ 4 * c + 3 ∧ k ≠ 4 * c + 6)
    (ha : ∀ c, c < 3 → Lup L i (4 * c + 1) → upd T k v (4 * c + 4) = .pointer (some ⟨gh, c, none⟩)) (hl : ∀ c, c < 3 → Lup L i (4 * c + 2) → upd T k v (4 * c + 5) = S c) : OI W0 gh g S E N X (Lup L i) (upd T k v) R w :=
  { h with
    p1 := (upd_ne (Ne.symm hk.1)).trans h.p1
    p2 := (upd_ne (Ne.symm hk.2.1)).trans h.p2
    own := fun d hd => by
      obtain ⟨m, ys, h1, h2, h3⟩ := h.own d hd
      obtain ⟨a1, a2⟩ := hi.2.2 d hd
      obtain ⟨b1, b2⟩ := hk.2.2.2 d hd
      refine ⟨m, ys, h1, fun h9 => ?_, fun h8 h9 => ?_⟩
      · obtain ⟨a, b, c9, d9⟩ := h2 ((Lup_ne (Ne.symm a2)).1 h9)
        exact ⟨a, b, (upd_ne (Ne.symm b2)).trans c9, .inl d9⟩
      · obtain ⟨a, b, c9⟩ := h3 ((Lup_ne (Ne.symm a1)).1 h8) (fun h7 => h9 (.inl h7))
        exact ⟨a, b, (upd_ne (Ne.symm b1)).trans c9⟩
    adr := ha
    ld := hl
    bld := fun h9 => by
      obtain ⟨a, b⟩ := h.bld ((Lup_ne (Ne.symm hi.1)).1 h9)
      exact ⟨fun c hc => .inl (a c hc), (upd_ne (Ne.symm hk.2.2.1)).trans b⟩
    res := fun h9 => by
      obtain ⟨a, b⟩ := h.res ((Lup_ne (Ne.symm hi.2.1)).1 h9)
      exact ⟨.inl a, b⟩
    res0 := fun h9 => h.res0 (fun h8 => h9 (.inl h8)) }
theorem OI.addr (h : OI W0 gh g S E N X L T R w) {c : Nat} (hc : c < 3) : OI W0 gh g S E N X (Lup L (4 * c + 1)) (upd T (4 * c + 4) (.pointer (some ⟨gh, c, none⟩))) R w :=
  h.same ⟨by omega, by omega, fun d hd => ⟨by omega, by omega⟩⟩ ⟨by omega, by omega, by omega, fun d hd => ⟨by omega, by omega⟩⟩
    (fun d hd h9 => by
      by_cases hdc : d = c
      · subst hdc; exact upd_same
      · exact (upd_ne (by omega)).trans (h.adr d hd ((Lup_ne (by omega)).1 h9)))
    (fun d hd h9 => (upd_ne (by omega)).trans (h.ld d hd ((Lup_ne (by omega)).1 h9)))
theorem OI.load (h : OI W0 gh g S E N X L T R w) {c : Nat} (hc : c < 3) : OI W0 gh g S E N X (Lup L (4 * c + 2)) (upd T (4 * c + 5) (S c)) R w :=
  h.same ⟨by omega, by omega, fun d hd => ⟨by omega, by omega⟩⟩ ⟨by omega, by omega, by omega, fun d hd => ⟨by omega, by omega⟩⟩
    (fun d hd h9 => (upd_ne (by omega)).trans (h.adr d hd ((Lup_ne (by omega)).1 h9)))
    (fun d hd h9 => by
      by_cases hdc : d = c
      · subst hdc; exact upd_same
      · exact (upd_ne (by omega)).trans (h.ld d hd ((Lup_ne (by omega)).1 h9)))
theorem OI.app (h : OI W0 gh g S E N X L T R w) {c : Nat} (hc : c < 3) (hb : L (4 * c)) (hn : ¬ L (4 * c + 3)) {v' : Value} {w' : World} (ho : w'.ownsRow (g + 1) (E c) 1 v' (N c) (X c)) (hgr : w.grownBy w' (R c).ownBlock) (hat : v'.ownBlock = (R c).ownBlock ∨ v'.ownBlock = some w.heap.size) :
    OI W0 gh g S E N X (Lup L (4 * c + 3)) (upd T (4 * c + 6) v') (upd R c v') w' := by
  have h12 := h.no12 hc hn
  obtain ⟨m0, ys0, ho0, _, _⟩ := h.own c hc
  have hrow : ∀ k, (R c).ownBlock = some k → g < k := fun k hk => (own_heap ho0 hk).1
  have hkeep : ∀ {q t : Nat} {cs : Array Value}, Blk w q t cs → q ≤ g → Blk w' q t cs := fun h9 hq => h9.grown hgr (fun e => by have := hrow _ e.symm; omega)
  exact {
    old := h.old.grown hgr h.old.size (fun k hk => by have := hrow k hk; have := h.hg; omega)
    hg := ⟨h.hg.1, h.hg.2.1, Nat.lt_of_lt_of_le h.hg.2.2 hgr.size⟩
    blk := hkeep h.blk (by have := h.hg; omega)
    p1 := (upd_ne (by omega)).trans h.p1
    p2 := (upd_ne (by omega)).trans h.p2
    own := fun d hd => by
      by_cases hdc : d = c
      · subst hdc
        refine ⟨N d, X d, by rw [upd_same]; exact ho, fun _ => ⟨rfl, rfl, by rw [upd_same, upd_same], .inl hb⟩, fun _ h9 => absurd (.inr rfl) h9⟩
      · obtain ⟨m, ys, h1, h2, h3⟩ := h.own d hd
        refine ⟨m, ys, by rw [upd_ne hdc]; exact own_at h1 (fun k hk => hgr.block k (own_heap h1 hk).2.1 (fun e => h.dis d c hd hc hdc k hk e.symm)), fun h9 => ?_, fun h8 h9 => ?_⟩
        · obtain ⟨a, b, c9, d9⟩ := h2 ((Lup_ne (by omega)).1 h9)
          exact ⟨a, b, by rw [upd_ne (by omega), upd_ne hdc]; exact c9, .inl d9⟩
        · obtain ⟨a, b, c9⟩ := h3 ((Lup_ne (by omega)).1 h8) (fun h7 => h9 (.inl h7))
          exact ⟨a, b, by rw [upd_ne (by omega), upd_ne hdc]; exact c9⟩
    dis := fun d e hd he hde k h1 h2 => by
      have hnew : ∀ q, q < 3 → q ≠ c → v'.ownBlock = some k → (R q).ownBlock = some k → False := fun q hq hqc h3 h4 => by
        rcases hat with h5 | h5
        · rw [h5] at h3
          exact h.dis c q hc hq (Ne.symm hqc) k h3 h4
        · rw [h5] at h3
          have hk : w.heap.size = k := Option.some.inj h3
          obtain ⟨m, ys, h6, _⟩ := h.own q hq
          have := (own_heap h6 h4).2.1
          omega
      by_cases hdc : d = c
      · subst hdc
        rw [upd_same] at h1
        rw [upd_ne (Ne.symm hde)] at h2
        exact hnew e he (Ne.symm hde) h1 h2
      · rw [upd_ne hdc] at h1
        by_cases hec : e = c
        · subst hec
          rw [upd_same] at h2
          exact hnew d hd hdc h2 h1
        · rw [upd_ne hec] at h2
          exact h.dis d e hd he hde k h1 h2
    adr := fun d hd h9 => (upd_ne (by omega)).trans (h.adr d hd ((Lup_ne (by omega)).1 h9))
    ld := fun d hd h9 => (upd_ne (by omega)).trans (h.ld d hd ((Lup_ne (by omega)).1 h9))
    bld := fun h9 => absurd ((Lup_ne (by omega)).1 h9) h12
    res := fun h9 => absurd (h.res ((Lup_ne (by omega)).1 h9)).1 h12
    res0 := fun h9 => hkeep (h.res0 (fun h8 => h9 (.inl h8))) (Nat.le_refl _) }
theorem OI.agg (h : OI W0 gh g S E N X L T R w) (hn : ¬ L 13) (ha : ∀ c, c < 3 → L (4 * c + 3)) : OI W0 gh g S E N X (Lup L 12) (upd T 15 (.agg #[R 0, R 1, R 2])) R w :=
  { h with
    p1 := (upd_ne (by omega)).trans h.p1
    p2 := (upd_ne (by omega)).trans h.p2
    own := fun d hd => by
      obtain ⟨m, ys, h1, h2, h3⟩ := h.own d hd
      refine ⟨m, ys, h1, fun h9 => ?_, fun h8 h9 => absurd (.inl (ha d hd)) h9⟩
      obtain ⟨a, b, c9, d9⟩ := h2 (ha d hd)
      exact ⟨a, b, (upd_ne (by omega)).trans c9, .inl d9⟩
    adr := fun d hd h9 => (upd_ne (by omega)).trans (h.adr d hd ((Lup_ne (by omega)).1 h9))
    ld := fun d hd h9 => (upd_ne (by omega)).trans (h.ld d hd ((Lup_ne (by omega)).1 h9))
    bld := fun _ => ⟨fun c hc => .inl (ha c hc), upd_same⟩
    res := fun h9 => absurd ((Lup_ne (by omega)).1 h9) hn
    res0 := fun h9 => h.res0 (fun h8 => h9 (.inl h8)) }
theorem OI.store (h : OI W0 gh g S E N X L T R w) (hn : ¬ L 13) (hb : L 12) : OI W0 gh g S E N X (Lup L 13) T R (((w.setCell ⟨g, 0, none⟩ (R 0)).setCell ⟨g, 1, none⟩ (R 1)).setCell ⟨g, 2, none⟩ (R 2)) := by
  have hfr := fr_set3 w g (R 0) (R 1) (R 2)
  exact { h with
    old := h.old.trans (hfr.below h.old.size (fun k hk => by have := h.hg; omega))
    hg := ⟨h.hg.1, h.hg.2.1, Nat.lt_of_lt_of_le h.hg.2.2 hfr.size⟩
    blk := hfr.blk h.blk (fun e => by have h9 : gh = g := e; have := h.hg; omega)
    own := fun d hd => by
      obtain ⟨m, ys, h1, h2, h3⟩ := h.own d hd
      refine ⟨m, ys, own_at h1 (fun k hk => hfr.block k (own_heap h1 hk).2.1 (fun e => by have h9 : k = g := e; have := (own_heap h1 hk).1; omega)), fun h9 => ?_, fun h8 h9 => absurd (.inl ((h.bld hb).1 d hd)) h9⟩
      obtain ⟨a, b, c9, d9⟩ := h2 ((h.bld hb).1 d hd)
      exact ⟨a, b, c9, .inl d9⟩
    adr := fun d hd h9 => h.adr d hd ((Lup_ne (by omega)).1 h9)
    ld := fun d hd h9 => h.ld d hd ((Lup_ne (by omega)).1 h9)
    bld := fun _ => ⟨fun c hc => .inl ((h.bld hb).1 c hc), (h.bld hb).2⟩
    res := fun _ => ⟨.inl hb, (h.res0 hn).set3 _ _ _⟩
    res0 := fun h9 => absurd (.inr rfl) h9 }
end
end
section
open Go.RowKit
set_option linter.unusedVariables false

section
def depB (md : Region.Mode) (ops : Array Oper) (i k : Nat) : Bool := ((ops[i]?).map (fun o => o.after.any fun e => Region.binds md e && e.on == k)).getD false
theorem ready_dep {md : Region.Mode} {ops : Array Oper} {l : Array Bool} {i k : Nat} (hi : i ∈ Region.ready md ops l) (hk : depB md ops i k = true) : l.getD k false = true := by
  obtain ⟨_, o, ho, hall⟩ := mem_ready.1 hi
  unfold depB at hk
  rw [ho, Option.map_some, Option.getD_some, Array.any_eq_true'] at hk
  obtain ⟨e, he, hb⟩ := hk
  simp only [Bool.and_eq_true, beq_iff_eq] at hb
  rw [← hb.2]
  exact hall e he hb.1
theorem set_upd {a : Array Value} {d : Nat} (hd : d < a.size) (v : Value) : (fun k => (a.setIfInBounds d v).getD k undef) = upd (fun k => a.getD k undef) d v := by
  funext k
  unfold upd
  by_cases h : k = d
  · subst h
    rw [if_pos rfl]
    simp [hd]
  · rw [if_neg h]
    simp [Array.getElem?_setIfInBounds_ne (Ne.symm h)]
theorem set_lup {l : Array Bool} {i : Nat} (hi : i < l.size) : (fun j => (l.setIfInBounds i true).getD j false = true) = Lup (fun j => l.getD j false = true) i := by
  funext j
  unfold Lup
  by_cases h : j = i
  · subst h
    simp [hi]
  · simp [Array.getElem?_setIfInBounds_ne (Ne.symm h), h]
theorem lup_no {l : Array Bool} {i : Nat} (hi : l.getD i true = false) : ¬ l.getD i false = true := by
  by_cases h : i < l.size
  · simp [h] at hi ⊢
    exact hi
  · simp [h] at hi
variable {W W' : World} {Aw Aa Ar : Option Addr} {lw cw la ca lr cr : Nat} {ws rs : List Nat} {nm : List (List UInt8)}
def oS (s0 s1 s2 : Value) : Nat → Value
  | 0 => s0
  | 1 => s1
  | _ => s2
def oE : Nat → TypeId
  | 1 => 9
  | _ => 34
def oN (a b c : Nat) : Nat → Nat
  | 0 => a
  | 1 => b
  | _ => c
def oX (a b c : List Value) : Nat → List Value
  | 0 => a
  | 1 => b
  | _ => c
/-- What own hands back. -/
def OwnEnds (W : World) (lw la lr : Nat) (ws : List Nat) (nm : List (List UInt8)) (rs : List Nat) (e : Ending) (w' : World) : Prop :=
  Below W.heap.size W w' ∧ ∃ Bw dw Ba da Br dr, e = .returned (.agg #[.slice Bw lw dw, .slice Ba la da, .slice Br lr dr]) ∧ HRd w' Bw lw dw Ba la da Br lr dr ws nm rs
set_option maxRecDepth 100000 in
set_option maxHeartbeats 8000000 in
theorem own_v (W : World) (h : HRd W Aw lw cw Aa la ca Ar lr cr ws nm rs) (hb1 : lw ≤ 1000000) (hb2 : la ≤ 1000000) (hb3 : lr ≤ 1000000) :
    Calls Try.prog 17 #[.agg #[.slice Aw lw cw, .slice Aa la ca, .slice Ar lr cr]] W (OwnEnds W lw la lr ws nm rs) := by
  have HH := Lib.hid h
  clear h
  obtain ⟨gh, hgh⟩ : ∃ gh, W.heap.size = gh := ⟨_, rfl⟩
  have HG := Lib.hid hgh
  go_enter Try.func17, Try.ntmps17
  go_upto_region 1 with (fail)
  refine wp_world (fun V => Below W.heap.size W V ∧ Blk V gh 29 #[.slice Aw lw cw, .slice Aa la ca, .slice Ar lr cr] ∧ Blk V (gh + 1) 29 #[.slice none 0 0, .slice none 0 0, .slice none 0 0]) ⟨below_step (below_alloc _ _) (below_alloc _ _), (by rw [← HG.out]; exact (Blk.new _ _ _).alloc _), by rw [← HG.out]; exact Blk.newAt (by simp)⟩ ?_
  rintro V ⟨hb, hk, hk2⟩
  have HB := Lib.hid hb
  have HK := Lib.hid hk
  have HK2 := Lib.hid hk2
  clear hb hk hk2 hgh
  refine wp_region_any (by kernel_rfl) (wpAny_inv (I := fun l a w => l.size = 14 ∧ a.tmps.size = 16 ∧ a.defers = [] ∧ ∃ R, OI W gh (gh + 1) (oS (.slice Aw lw cw) (.slice Aa la ca) (.slice Ar lr cr)) oE (oN lw la lr) (oX (ws.map nv) (nm.map hv) (rs.map nv)) (fun j => l.getD j false = true) (fun k => a.tmps.getD k undef) R w) (by kernel_rfl) ?_ ?_ ?_ _ _ _ _ ⟨by rfl, by rfl, by rfl, (fun _ => .slice none 0 0), ?_⟩ (unlisted_none _))
  · exact fun l a w h => h.1
  · rintro l a w i ⟨hs, ht, hd, R, hO⟩ hi
    have h0 := (mem_ready.1 hi).1
    have hi14 : i < l.size := by
      by_cases h : i < l.size
      · exact h
      · simp [h] at h0
    obtain ⟨tm, df⟩ := a
    simp only at ht hd hO
    subst hd
    obtain ⟨tl⟩ := tm
    match tl, ht with
    | [t0, t1, t2, t3, t4, t5, t6, t7, t8, t9, t10, t11, t12, t13, t14, t15], _ =>
      have hi9 : i < 14 := by omega
      match i, hi9 with
      | 0, _ =>
        refine wpOp_step (by rfl) (fun K hK => ?_)
        go_simp
        have h9 := hO.build (c := 0) (by omega) (lup_no h0)
        rw [← set_upd (a := #[_, _, _, _, _, _, _, _, _, _, _, _, _, _, _, _]) (d := 3) (by show 3 < 16; decide), ← set_lup (l := l) (by rw [hs]; omega)] at h9
        exact hK _ _ ⟨by simp [hs], by rfl, rfl, _, h9⟩
      | 1, _ =>
        refine wpOp_step (by rfl) (fun K hK => ?_)
        obtain rfl : t1 = .pointer (some ⟨gh, 0, none⟩) := hO.p1
        go_simp
        have h9 := hO.addr (c := 0) (by omega)
        rw [← set_upd (a := #[_, _, _, _, _, _, _, _, _, _, _, _, _, _, _, _]) (d := 4) (by show 4 < 16; decide), ← set_lup (l := l) (by rw [hs]; omega)] at h9
        exact hK _ _ ⟨by simp [hs], by rfl, rfl, _, h9⟩
      | 2, _ =>
        refine wpOp_step (by rfl) (fun K hK => ?_)
        obtain rfl : t4 = .pointer (some ⟨gh, 0, none⟩) := hO.adr 0 (by omega) (ready_dep hi (by kernel_rfl))
        have e9 : w.cell? ⟨gh, 0, none⟩ = some (.slice Aw lw cw) := hO.blk.cell 0
        go_simp
        have h9 := hO.load (c := 0) (by omega)
        rw [← set_upd (a := #[_, _, _, _, _, _, _, _, _, _, _, _, _, _, _, _]) (d := 5) (by show 5 < 16; decide), ← set_lup (l := l) (by rw [hs]; omega)] at h9
        exact hK _ _ ⟨by simp [hs], by rfl, rfl, _, h9⟩
      | 3, _ =>
        refine wpOp_step (by rfl) (fun K hK => ?_)
        obtain rfl : t5 = .slice Aw lw cw := hO.ld 0 (by omega) (ready_dep hi (by kernel_rfl))
        have hlb : l.getD 0 false = true := ready_dep hi (by kernel_rfl)
        obtain ⟨m, ys, k1, _, k3⟩ := hO.own 0 (by omega)
        obtain ⟨rfl, rfl, e3⟩ := k3 hlb (lup_no h0)
        obtain rfl : t3 = R 0 := e3
        refine step_appO uintsT (by rfl) (.tmp 3) (.tmp 5) (by rfl) (gh + 2) 0 [] (R 0) k1 Aw lw cw (ws.map nv) (by rfl) (by rfl) (by rw [List.length_map, HH.out.hlw, Nat.mul_one]) ((HH.out.w.below hO.old).cs) (nv_one ws) (by unfold maxLen; omega) (by omega) hO.hg.2.2 ?_
        intro v7 w7 ho7 hg7 hat7
        rw [Nat.zero_add, List.nil_append] at ho7
        have h9 := hO.app (c := 0) (by omega) hlb (lup_no h0) ho7 hg7 hat7
        rw [← set_upd (a := #[_, _, _, _, _, _, _, _, _, _, _, _, _, _, _, _]) (d := 6) (by show 6 < 16; decide), ← set_lup (l := l) (by rw [hs]; omega)] at h9
        exact hK _ _ ⟨by simp [hs], by rfl, rfl, _, h9⟩
      | 4, _ =>
        refine wpOp_step (by rfl) (fun K hK => ?_)
        go_simp
        have h9 := hO.build (c := 1) (by omega) (lup_no h0)
        rw [← set_upd (a := #[_, _, _, _, _, _, _, _, _, _, _, _, _, _, _, _]) (d := 7) (by show 7 < 16; decide), ← set_lup (l := l) (by rw [hs]; omega)] at h9
        exact hK _ _ ⟨by simp [hs], by rfl, rfl, _, h9⟩
      | 5, _ =>
        refine wpOp_step (by rfl) (fun K hK => ?_)
        obtain rfl : t1 = .pointer (some ⟨gh, 0, none⟩) := hO.p1
        go_simp
        have h9 := hO.addr (c := 1) (by omega)
        rw [← set_upd (a := #[_, _, _, _, _, _, _, _, _, _, _, _, _, _, _, _]) (d := 8) (by show 8 < 16; decide), ← set_lup (l := l) (by rw [hs]; omega)] at h9
        exact hK _ _ ⟨by simp [hs], by rfl, rfl, _, h9⟩
      | 6, _ =>
        refine wpOp_step (by rfl) (fun K hK => ?_)
        obtain rfl : t8 = .pointer (some ⟨gh, 1, none⟩) := hO.adr 1 (by omega) (ready_dep hi (by kernel_rfl))
        have e9 : w.cell? ⟨gh, 1, none⟩ = some (.slice Aa la ca) := hO.blk.cell 1
        go_simp
        have h9 := hO.load (c := 1) (by omega)
        rw [← set_upd (a := #[_, _, _, _, _, _, _, _, _, _, _, _, _, _, _, _]) (d := 9) (by show 9 < 16; decide), ← set_lup (l := l) (by rw [hs]; omega)] at h9
        exact hK _ _ ⟨by simp [hs], by rfl, rfl, _, h9⟩
      | 7, _ =>
        refine wpOp_step (by rfl) (fun K hK => ?_)
        obtain rfl : t9 = .slice Aa la ca := hO.ld 1 (by omega) (ready_dep hi (by kernel_rfl))
        have hlb : l.getD 4 false = true := ready_dep hi (by kernel_rfl)
        obtain ⟨m, ys, k1, _, k3⟩ := hO.own 1 (by omega)
        obtain ⟨rfl, rfl, e3⟩ := k3 hlb (lup_no h0)
        obtain rfl : t7 = R 1 := e3
        refine step_appO htextsT (by rfl) (.tmp 7) (.tmp 9) (by rfl) (gh + 2) 0 [] (R 1) k1 Aa la ca (nm.map hv) (by rfl) (by rfl) (by rw [List.length_map, HH.out.hla, Nat.mul_one]) ((HH.out.a.below hO.old).cs) (hv_one nm) (by unfold maxLen; omega) (by omega) hO.hg.2.2 ?_
        intro v7 w7 ho7 hg7 hat7
        rw [Nat.zero_add, List.nil_append] at ho7
        have h9 := hO.app (c := 1) (by omega) hlb (lup_no h0) ho7 hg7 hat7
        rw [← set_upd (a := #[_, _, _, _, _, _, _, _, _, _, _, _, _, _, _, _]) (d := 10) (by show 10 < 16; decide), ← set_lup (l := l) (by rw [hs]; omega)] at h9
        exact hK _ _ ⟨by simp [hs], by rfl, rfl, _, h9⟩
      | 8, _ =>
        refine wpOp_step (by rfl) (fun K hK => ?_)
        go_simp
        have h9 := hO.build (c := 2) (by omega) (lup_no h0)
        rw [← set_upd (a := #[_, _, _, _, _, _, _, _, _, _, _, _, _, _, _, _]) (d := 11) (by show 11 < 16; decide), ← set_lup (l := l) (by rw [hs]; omega)] at h9
        exact hK _ _ ⟨by simp [hs], by rfl, rfl, _, h9⟩
      | 9, _ =>
        refine wpOp_step (by rfl) (fun K hK => ?_)
        obtain rfl : t1 = .pointer (some ⟨gh, 0, none⟩) := hO.p1
        go_simp
        have h9 := hO.addr (c := 2) (by omega)
        rw [← set_upd (a := #[_, _, _, _, _, _, _, _, _, _, _, _, _, _, _, _]) (d := 12) (by show 12 < 16; decide), ← set_lup (l := l) (by rw [hs]; omega)] at h9
        exact hK _ _ ⟨by simp [hs], by rfl, rfl, _, h9⟩
      | 10, _ =>
        refine wpOp_step (by rfl) (fun K hK => ?_)
        obtain rfl : t12 = .pointer (some ⟨gh, 2, none⟩) := hO.adr 2 (by omega) (ready_dep hi (by kernel_rfl))
        have e9 : w.cell? ⟨gh, 2, none⟩ = some (.slice Ar lr cr) := hO.blk.cell 2
        go_simp
        have h9 := hO.load (c := 2) (by omega)
        rw [← set_upd (a := #[_, _, _, _, _, _, _, _, _, _, _, _, _, _, _, _]) (d := 13) (by show 13 < 16; decide), ← set_lup (l := l) (by rw [hs]; omega)] at h9
        exact hK _ _ ⟨by simp [hs], by rfl, rfl, _, h9⟩
      | 11, _ =>
        refine wpOp_step (by rfl) (fun K hK => ?_)
        obtain rfl : t13 = .slice Ar lr cr := hO.ld 2 (by omega) (ready_dep hi (by kernel_rfl))
        have hlb : l.getD 8 false = true := ready_dep hi (by kernel_rfl)
        obtain ⟨m, ys, k1, _, k3⟩ := hO.own 2 (by omega)
        obtain ⟨rfl, rfl, e3⟩ := k3 hlb (lup_no h0)
        obtain rfl : t11 = R 2 := e3
        refine step_appO uintsT (by rfl) (.tmp 11) (.tmp 13) (by rfl) (gh + 2) 0 [] (R 2) k1 Ar lr cr (rs.map nv) (by rfl) (by rfl) (by rw [List.length_map, HH.out.hlr, Nat.mul_one]) ((HH.out.r.below hO.old).cs) (nv_one rs) (by unfold maxLen; omega) (by omega) hO.hg.2.2 ?_
        intro v7 w7 ho7 hg7 hat7
        rw [Nat.zero_add, List.nil_append] at ho7
        have h9 := hO.app (c := 2) (by omega) hlb (lup_no h0) ho7 hg7 hat7
        rw [← set_upd (a := #[_, _, _, _, _, _, _, _, _, _, _, _, _, _, _, _]) (d := 14) (by show 14 < 16; decide), ← set_lup (l := l) (by rw [hs]; omega)] at h9
        exact hK _ _ ⟨by simp [hs], by rfl, rfl, _, h9⟩
      | 12, _ =>
        refine wpOp_step (by rfl) (fun K hK => ?_)
        have ha : ∀ c, c < 3 → l.getD (4 * c + 3) false = true := fun c hc => (match c, hc with | 0, _ => ready_dep hi (by kernel_rfl) | 1, _ => ready_dep hi (by kernel_rfl) | 2, _ => ready_dep hi (by kernel_rfl))
        obtain ⟨m0, y0, k0, l0, _⟩ := hO.own 0 (by omega)
        obtain ⟨B0, d0, e0⟩ := own_sl k0
        obtain rfl : t6 = .slice B0 m0 d0 := (l0 (ha 0 (by omega))).2.2.1.trans e0
        obtain ⟨m1, y1, k1, l1, _⟩ := hO.own 1 (by omega)
        obtain ⟨B1, d1, e1⟩ := own_sl k1
        obtain rfl : t10 = .slice B1 m1 d1 := (l1 (ha 1 (by omega))).2.2.1.trans e1
        obtain ⟨m2, y2, k2, l2, _⟩ := hO.own 2 (by omega)
        obtain ⟨B2, d2, e2⟩ := own_sl k2
        obtain rfl : t14 = .slice B2 m2 d2 := (l2 (ha 2 (by omega))).2.2.1.trans e2
        have hn13 : ¬ l.getD 13 false = true := fun h9 => absurd (hO.res h9).1 (lup_no h0)
        go_simp
        have h9 := (by have h8 := hO.agg hn13 ha; rw [e0, e1, e2] at h8; exact h8 : OI W gh (gh + 1) _ _ _ _ _ _ R w)
        rw [← set_upd (a := #[_, _, _, _, _, _, _, _, _, _, _, _, _, _, _, _]) (d := 15) (by show 15 < 16; decide), ← set_lup (l := l) (by rw [hs]; omega)] at h9
        exact hK _ _ ⟨by simp [hs], by rfl, rfl, _, h9⟩
      | 13, _ =>
        refine wpOp_step (by rfl) (fun K hK => ?_)
        have hb12 : l.getD 12 false = true := ready_dep hi (by kernel_rfl)
        obtain ⟨m0, y0, k0, _⟩ := hO.own 0 (by omega)
        obtain ⟨m1, y1, k1, _⟩ := hO.own 1 (by omega)
        obtain ⟨m2, y2, k2, _⟩ := hO.own 2 (by omega)
        obtain ⟨B0, d0, e0⟩ := own_sl k0
        obtain ⟨B1, d1, e1⟩ := own_sl k1
        obtain ⟨B2, d2, e2⟩ := own_sl k2
        obtain rfl : t15 = .agg #[.slice B0 m0 d0, .slice B1 m1 d1, .slice B2 m2 d2] := (by have h8 := (hO.bld hb12).2; rw [e0, e1, e2] at h8; exact h8)
        obtain rfl : t2 = .pointer (some ⟨gh + 1, 0, none⟩) := hO.p2
        have hz := hO.res0 (lup_no h0)
        have z0 := hz.cell 0
        have z1 := hz.cell 1
        have z2 := hz.cell 2
        have zf0 := hz.frozen 0
        have zf1 := hz.frozen 1
        have zf2 := hz.frozen 2
        go_simp
        have h9 : OI W gh (gh + 1) _ _ _ _ (Lup _ 13) _ R _ := (by have h8 := hO.store (lup_no h0) hb12; rw [e0, e1, e2] at h8; exact h8)
        rw [← set_lup (l := l) (by rw [hs]; omega)] at h9
        exact hK _ _ ⟨by simp [hs], by rfl, rfl, _, h9⟩
  · rintro l a w ⟨hs, ht, hd, R, hO⟩ hall
    obtain ⟨tm, df⟩ := a
    simp only at ht hd hO
    subst hd
    obtain ⟨tl⟩ := tm
    match tl, ht with
    | [t0, t1, t2, t3, t4, t5, t6, t7, t8, t9, t10, t11, t12, t13, t14, t15], _ =>
      obtain rfl : t2 = .pointer (some ⟨gh + 1, 0, none⟩) := hO.p2
      have hr := (hO.res (hall 13 (by decide))).2
      obtain ⟨m0, y0, k0, l0, _⟩ := hO.own 0 (by omega)
      obtain ⟨m1, y1, k1, l1, _⟩ := hO.own 1 (by omega)
      obtain ⟨m2, y2, k2, l2, _⟩ := hO.own 2 (by omega)
      obtain ⟨em0, ey0, _, _⟩ := l0 (hall 3 (by decide))
      have k0 : w.ownsRow (gh + 2) 34 1 (R 0) lw (ws.map nv) := by rw [em0, ey0] at k0; exact k0
      obtain ⟨em1, ey1, _, _⟩ := l1 (hall 7 (by decide))
      have k1 : w.ownsRow (gh + 2) 9 1 (R 1) la (nm.map hv) := by rw [em1, ey1] at k1; exact k1
      obtain ⟨em2, ey2, _, _⟩ := l2 (hall 11 (by decide))
      have k2 : w.ownsRow (gh + 2) 34 1 (R 2) lr (rs.map nv) := by rw [em2, ey2] at k2; exact k2
      obtain ⟨Bw, dw, e0⟩ := own_sl k0
      obtain ⟨Ba, da, e1⟩ := own_sl k1
      obtain ⟨Br, dr, e2⟩ := own_sl k2
      rw [e0] at k0
      rw [e1] at k1
      rw [e2] at k2
      rw [e0, e1, e2] at hr
      have HEND : Hid (OwnEnds W lw la lr ws nm rs (.returned (.agg #[.slice Bw lw dw, .slice Ba la da, .slice Br lr dr])) w) := ⟨hO.old, Bw, dw, Ba, da, Br, dr, rfl, { HH.out with w := rdc_own k0, a := rdc_own k1, r := rdc_own k2, hcw := own_caps k0, hca := own_caps k1, hcr := own_caps k2 }⟩
      have y0 : w.cell? ⟨gh + 1, 0, none⟩ = some (.slice Bw lw dw) := hr.cell 0
      have y1 : w.cell? ⟨gh + 1, 1, none⟩ = some (.slice Ba la da) := hr.cell 1
      have y2 : w.cell? ⟨gh + 1, 2, none⟩ = some (.slice Br lr dr) := hr.cell 2
      clear hall hO hr k0 k1 k2 l0 l1 l2
      go_wp2
      exact bodyPost_ret (v := .agg #[.slice Bw lw dw, .slice Ba la da, .slice Br lr dr]) (by simp [results, Try.results17, go_sem, y0, y1, y2]) rfl HEND.out
  · have hno : ∀ j, ¬ (Array.replicate 14 false).getD j false = true := fun j => by
      by_cases h : j < 14 <;> simp [h]
    exact {
      old := HB.out.drew
      hg := ⟨by rw [HG.out]; exact Nat.le_refl _, Nat.lt_succ_self _, HK2.out.lt⟩
      blk := HK.out
      p1 := rfl
      p2 := rfl
      own := fun c hc => ⟨0, [], World.ownsRow_nil _ _ _ _, fun h9 => absurd h9 (hno _), fun h9 _ => absurd h9 (hno _)⟩
      dis := fun c d _ _ _ k h9 => by cases h9
      adr := fun c _ h9 => absurd h9 (hno _)
      ld := fun c _ h9 => absurd h9 (hno _)
      bld := fun h9 => absurd h9 (hno _)
      res := fun h9 => absurd h9 (hno _)
      res0 := fun _ => HK2.out }
end
end
end Go.Proofs.Ytefnjplfemgibaa
