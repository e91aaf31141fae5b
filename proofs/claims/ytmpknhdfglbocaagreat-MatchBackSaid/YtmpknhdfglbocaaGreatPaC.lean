/- Layer 11: trees of programs in memory: nodes of seven cells, clauses of five. No function of the program is named here. -/
import Derived.Test.YtmpknhdfglbocaaGreatPaB
import Derived.Test.YtmpknhdfglbocaaGreatRdX
namespace Go.Proofs.YtmpknhdfglbocaaGreat
open Go.RowKit
set_option linter.unusedVariables false

/-! ### rows of elements of some cells -/
section
variable {α : Type} (f : α → List Value)
def flat (xs : List α) : List Value := xs.flatMap f
theorem flat_cons (x : α) (r : List α) : flat f (x :: r) = f x ++ flat f r := by simp [flat]
theorem flat_append (a b : List α) : flat f (a ++ b) = flat f a ++ flat f b := by simp [flat]
theorem flat_one (x : α) : flat f [x] = f x := by simp [flat]
variable {f} {z : Nat} (hz : ∀ x, (f x).length = z)
include hz
theorem flat_len (xs : List α) : (flat f xs).length = xs.length * z := by
  induction xs with
  | nil => simp [flat]
  | cons x r ih => rw [flat_cons, List.length_append, hz, ih, List.length_cons, Nat.succ_mul, Nat.add_comm]
theorem flat_at : ∀ (xs : List α) (k i : Nat) (h : k < xs.length), i < z → (flat f xs)[k * z + i]? = (f xs[k])[i]?
  | x :: r, 0, i, _, hi => by
    rw [flat_cons, Nat.zero_mul, Nat.zero_add, List.getElem_cons_zero, List.getElem?_append_left (by rw [hz]; exact hi)]
  | x :: r, k + 1, i, h, hi => by
    rw [flat_cons, List.getElem_cons_succ, List.getElem?_append_right (by rw [hz, Nat.succ_mul]; omega), hz, show (k + 1) * z + i - z = k * z + i by rw [Nat.succ_mul]; omega]
    exact flat_at r k i (by simpa using h) hi
  | [], _, _, h, _ => by simp at h
omit hz in
theorem flat_one' (h1 : ∀ x, ∀ u ∈ f x, u.oneCell' = true) (xs : List α) : ∀ u ∈ flat f xs, u.oneCell' = true := by
  intro u hu
  obtain ⟨x, _, hx⟩ := List.mem_flatMap.1 hu
  exact h1 x u hx
end

mutual
/-- A node in memory, none of its blocks in S. -/
def ND.At (S : Nat → Prop) (W : World) : ND → Nat → Nat → Prop
  | .mk k n s a l m r, b, o => W.cell? ⟨b, o, none⟩ = some (.int .i64 k) ∧ W.cell? ⟨b, o + 1, none⟩ = some (.int .i64 n) ∧ W.cell? ⟨b, o + 2, none⟩ = some (.string ⟨s.toArray⟩) ∧ W.cell? ⟨b, o + 3, none⟩ = some (.int .i64 a) ∧
      (∃ A c, W.cell? ⟨b, o + 4, none⟩ = some (.slice A l.length c) ∧ l.length ≤ c ∧ c ≤ 9223372036854775807 ∧ (l = [] ∨ ∃ b' o', A = some ⟨b', o', none⟩ ∧ ¬ S b' ∧ ND.Row S W l b' o')) ∧
      (∃ A c, W.cell? ⟨b, o + 5, none⟩ = some (.slice A m.length c) ∧ m.length ≤ c ∧ c ≤ 9223372036854775807 ∧ (m = [] ∨ ∃ b' o', A = some ⟨b', o', none⟩ ∧ ¬ S b' ∧ CD.Row S W m b' o')) ∧
      (∃ A c, W.cell? ⟨b, o + 6, none⟩ = some (.slice A r.length c) ∧ r.length ≤ c ∧ c ≤ 9223372036854775807 ∧ (r = [] ∨ ∃ b' o', A = some ⟨b', o', none⟩ ∧ ¬ S b' ∧ ND.Row S W r b' o'))
def ND.Row (S : Nat → Prop) (W : World) : List ND → Nat → Nat → Prop
  | [], _, _ => True
  | t :: r, b, o => t.At S W b o ∧ ND.Row S W r b (o + 7)
def CD.At (S : Nat → Prop) (W : World) : CD → Nat → Nat → Prop
  | .mk p g r s a, b, o =>
      (∃ A c, W.cell? ⟨b, o, none⟩ = some (.slice A p.length c) ∧ p.length ≤ c ∧ c ≤ 9223372036854775807 ∧ (p = [] ∨ ∃ b' o', A = some ⟨b', o', none⟩ ∧ ¬ S b' ∧ ND.Row S W p b' o')) ∧
      (∃ A c, W.cell? ⟨b, o + 1, none⟩ = some (.slice A g.length c) ∧ g.length ≤ c ∧ c ≤ 9223372036854775807 ∧ (g = [] ∨ ∃ b' o', A = some ⟨b', o', none⟩ ∧ ¬ S b' ∧ ND.Row S W g b' o')) ∧
      (∃ A c, W.cell? ⟨b, o + 2, none⟩ = some (.slice A r.length c) ∧ r.length ≤ c ∧ c ≤ 9223372036854775807 ∧ (r = [] ∨ ∃ b' o', A = some ⟨b', o', none⟩ ∧ ¬ S b' ∧ ND.Row S W r b' o')) ∧
      W.cell? ⟨b, o + 3, none⟩ = some (.string ⟨s.toArray⟩) ∧ W.cell? ⟨b, o + 4, none⟩ = some (.int .i64 a)
def CD.Row (S : Nat → Prop) (W : World) : List CD → Nat → Nat → Prop
  | [], _, _ => True
  | t :: r, b, o => t.At S W b o ∧ CD.Row S W r b (o + 5)
end

/-- A slice reads as these nodes, none of their blocks in S. -/
def RdN (S : Nat → Prop) (W : World) (A : Option Addr) (c : Nat) (l : List ND) : Prop := l.length ≤ c ∧ c ≤ 9223372036854775807 ∧ (l = [] ∨ ∃ b o, A = some ⟨b, o, none⟩ ∧ ¬ S b ∧ ND.Row S W l b o)
def RdC (S : Nat → Prop) (W : World) (A : Option Addr) (c : Nat) (l : List CD) : Prop := l.length ≤ c ∧ c ≤ 9223372036854775807 ∧ (l = [] ∨ ∃ b o, A = some ⟨b, o, none⟩ ∧ ¬ S b ∧ CD.Row S W l b o)

/-- From one world and one set to others: the cells outside of S stand, and what is in the new set was in S, or is new. -/
structure Mv (S : Nat → Prop) (W : World) (S' : Nat → Prop) (W' : World) : Prop where
  keep : KeepEx S W W'
  sub : ∀ k, k < W.heap.size → S' k → S k
section
variable {S S' : Nat → Prop} {W W' : World}
theorem Mv.cell (h : Mv S W S' W') {b o : Nat} {v : Value} (hb : ¬ S b) (hv : W.cell? ⟨b, o, none⟩ = some v) : W'.cell? ⟨b, o, none⟩ = some v := h.keep.cells _ hb _ hv
theorem nd_lt {l : List ND} (hl : l ≠ []) {b o : Nat} (h : ND.Row S W l b o) : b < W.heap.size := by
  match l, hl, h with
  | .mk _ _ _ _ _ _ _ :: _, _, h =>
    simp only [ND.Row, ND.At] at h
    exact World.block_lt_of_cell? W ⟨b, o, none⟩ h.1.1
theorem cd_lt {l : List CD} (hl : l ≠ []) {b o : Nat} (h : CD.Row S W l b o) : b < W.heap.size := by
  match l, hl, h with
  | .mk _ _ _ _ _ :: _, _, h =>
    simp only [CD.Row, CD.At] at h
    exact World.block_lt_of_cell? W ⟨b, o + 3, none⟩ h.1.2.2.2.1
mutual
theorem ND.At.move (h : Mv S W S' W') : ∀ (t : ND) (b o : Nat), ¬ S b → t.At S W b o → t.At S' W' b o
  | .mk k n s a l m r, b, o, hb, ht => by
    simp only [ND.At] at ht ⊢
    obtain ⟨h0, h1, h2, h3, ⟨A, c, h4, h41, h42, h43⟩, ⟨B, d, h5, h51, h52, h53⟩, ⟨C, e, h6, h61, h62, h63⟩⟩ := ht
    refine ⟨h.cell hb h0, h.cell hb h1, h.cell hb h2, h.cell hb h3, ⟨A, c, h.cell hb h4, h41, h42, ?_⟩, ⟨B, d, h.cell hb h5, h51, h52, ?_⟩, ⟨C, e, h.cell hb h6, h61, h62, ?_⟩⟩
    · rcases h43 with h43 | ⟨b', o', e1, e2, e3⟩
      · exact .inl h43
      · exact (Classical.em (l = [])).elim .inl fun hl => .inr ⟨b', o', e1, fun q => e2 (h.sub _ (nd_lt hl e3) q), ND.Row.move h l b' o' e2 e3⟩
    · rcases h53 with h53 | ⟨b', o', e1, e2, e3⟩
      · exact .inl h53
      · exact (Classical.em (m = [])).elim .inl fun hl => .inr ⟨b', o', e1, fun q => e2 (h.sub _ (cd_lt hl e3) q), CD.Row.move h m b' o' e2 e3⟩
    · rcases h63 with h63 | ⟨b', o', e1, e2, e3⟩
      · exact .inl h63
      · exact (Classical.em (r = [])).elim .inl fun hl => .inr ⟨b', o', e1, fun q => e2 (h.sub _ (nd_lt hl e3) q), ND.Row.move h r b' o' e2 e3⟩
theorem ND.Row.move (h : Mv S W S' W') : ∀ (l : List ND) (b o : Nat), ¬ S b → ND.Row S W l b o → ND.Row S' W' l b o
  | [], _, _, _, _ => by simp [ND.Row]
  | t :: r, b, o, hb, hr => by
    simp only [ND.Row] at hr ⊢
    exact ⟨ND.At.move h t b o hb hr.1, ND.Row.move h r b (o + 7) hb hr.2⟩
theorem CD.At.move (h : Mv S W S' W') : ∀ (t : CD) (b o : Nat), ¬ S b → t.At S W b o → t.At S' W' b o
  | .mk p g r s a, b, o, hb, ht => by
    simp only [CD.At] at ht ⊢
    obtain ⟨⟨A, c, h4, h41, h42, h43⟩, ⟨B, d, h5, h51, h52, h53⟩, ⟨C, e, h6, h61, h62, h63⟩, h0, h1⟩ := ht
    refine ⟨⟨A, c, h.cell hb h4, h41, h42, ?_⟩, ⟨B, d, h.cell hb h5, h51, h52, ?_⟩, ⟨C, e, h.cell hb h6, h61, h62, ?_⟩, h.cell hb h0, h.cell hb h1⟩
    · rcases h43 with h43 | ⟨b', o', e1, e2, e3⟩
      · exact .inl h43
      · exact (Classical.em (p = [])).elim .inl fun hl => .inr ⟨b', o', e1, fun q => e2 (h.sub _ (nd_lt hl e3) q), ND.Row.move h p b' o' e2 e3⟩
    · rcases h53 with h53 | ⟨b', o', e1, e2, e3⟩
      · exact .inl h53
      · exact (Classical.em (g = [])).elim .inl fun hl => .inr ⟨b', o', e1, fun q => e2 (h.sub _ (nd_lt hl e3) q), ND.Row.move h g b' o' e2 e3⟩
    · rcases h63 with h63 | ⟨b', o', e1, e2, e3⟩
      · exact .inl h63
      · exact (Classical.em (r = [])).elim .inl fun hl => .inr ⟨b', o', e1, fun q => e2 (h.sub _ (nd_lt hl e3) q), ND.Row.move h r b' o' e2 e3⟩
theorem CD.Row.move (h : Mv S W S' W') : ∀ (l : List CD) (b o : Nat), ¬ S b → CD.Row S W l b o → CD.Row S' W' l b o
  | [], _, _, _, _ => by simp [CD.Row]
  | t :: r, b, o, hb, hr => by
    simp only [CD.Row] at hr ⊢
    exact ⟨CD.At.move h t b o hb hr.1, CD.Row.move h r b (o + 5) hb hr.2⟩
end
theorem RdN.move {A : Option Addr} {c : Nat} {l : List ND} (h : RdN S W A c l) (m : Mv S W S' W') : RdN S' W' A c l := by
  obtain ⟨h1, h2, h3⟩ := h
  refine ⟨h1, h2, ?_⟩
  rcases h3 with h3 | ⟨b, o, e1, e2, e3⟩
  · exact .inl h3
  · exact (Classical.em (l = [])).elim .inl fun hl => .inr ⟨b, o, e1, fun q => e2 (m.sub _ (nd_lt hl e3) q), ND.Row.move m l b o e2 e3⟩
theorem RdC.move {A : Option Addr} {c : Nat} {l : List CD} (h : RdC S W A c l) (m : Mv S W S' W') : RdC S' W' A c l := by
  obtain ⟨h1, h2, h3⟩ := h
  refine ⟨h1, h2, ?_⟩
  rcases h3 with h3 | ⟨b, o, e1, e2, e3⟩
  · exact .inl h3
  · exact (Classical.em (l = [])).elim .inl fun hl => .inr ⟨b, o, e1, fun q => e2 (m.sub _ (cd_lt hl e3) q), CD.Row.move m l b o e2 e3⟩
theorem RdN.nil_ (S : Nat → Prop) (W : World) (A : Option Addr) {c : Nat} (hc : c ≤ 9223372036854775807) : RdN S W A c [] := ⟨Nat.zero_le _, hc, .inl rfl⟩
theorem RdC.nil_ (S : Nat → Prop) (W : World) (A : Option Addr) {c : Nat} (hc : c ≤ 9223372036854775807) : RdC S W A c [] := ⟨Nat.zero_le _, hc, .inl rfl⟩
end

/-- A node with its slices. -/
structure EN where
  t : ND
  A : Option Addr
  c : Nat
  B : Option Addr
  d : Nat
  C : Option Addr
  e : Nat
def EN.cells (x : EN) : List Value := [.int .i64 x.t.kind, .int .i64 x.t.int, .string ⟨x.t.name.toArray⟩, .int .i64 x.t.at_, .slice x.A x.t.kids.length x.c, .slice x.B x.t.clauses.length x.d, .slice x.C x.t.body.length x.e]
def EN.agg (x : EN) : Value := .agg #[.int .i64 x.t.kind, .int .i64 x.t.int, .string ⟨x.t.name.toArray⟩, .int .i64 x.t.at_, .slice x.A x.t.kids.length x.c, .slice x.B x.t.clauses.length x.d, .slice x.C x.t.body.length x.e]
structure EN.Ok (S : Nat → Prop) (W : World) (x : EN) : Prop where
  kids : RdN S W x.A x.c x.t.kids
  clauses : RdC S W x.B x.d x.t.clauses
  body : RdN S W x.C x.e x.t.body
/-- A clause with its slices. -/
structure EC where
  t : CD
  A : Option Addr
  c : Nat
  B : Option Addr
  d : Nat
  C : Option Addr
  e : Nat
def EC.cells (x : EC) : List Value := [.slice x.A x.t.patterns.length x.c, .slice x.B x.t.guards.length x.d, .slice x.C x.t.body.length x.e, .string ⟨x.t.name.toArray⟩, .int .i64 x.t.at_]
def EC.agg (x : EC) : Value := .agg #[.slice x.A x.t.patterns.length x.c, .slice x.B x.t.guards.length x.d, .slice x.C x.t.body.length x.e, .string ⟨x.t.name.toArray⟩, .int .i64 x.t.at_]
structure EC.Ok (S : Nat → Prop) (W : World) (x : EC) : Prop where
  patterns : RdN S W x.A x.c x.t.patterns
  guards : RdN S W x.B x.d x.t.guards
  body : RdN S W x.C x.e x.t.body
theorem EN.cells_len (x : EN) : x.cells.length = 7 := rfl
theorem EC.cells_len (x : EC) : x.cells.length = 5 := rfl
theorem EN.cells_one (x : EN) : ∀ u ∈ x.cells, u.oneCell' = true := by
  intro u hu
  simp only [EN.cells, List.mem_cons, List.mem_nil_iff, or_false] at hu
  rcases hu with rfl | rfl | rfl | rfl | rfl | rfl | rfl <;> rfl
theorem EC.cells_one (x : EC) : ∀ u ∈ x.cells, u.oneCell' = true := by
  intro u hu
  simp only [EC.cells, List.mem_cons, List.mem_nil_iff, or_false] at hu
  rcases hu with rfl | rfl | rfl | rfl | rfl <;> rfl
abbrev enL (xs : List EN) : List Value := flat EN.cells xs
abbrev ecL (xs : List EC) : List Value := flat EC.cells xs
theorem enL_cons (x : EN) (r : List EN) : enL (x :: r) = x.cells ++ enL r := flat_cons _ _ _
theorem ecL_cons (x : EC) (r : List EC) : ecL (x :: r) = x.cells ++ ecL r := flat_cons _ _ _
section
variable {S S' : Nat → Prop} {W W' : World}
theorem EN.Ok.move {x : EN} (h : x.Ok S W) (m : Mv S W S' W') : x.Ok S' W' := ⟨h.kids.move m, h.clauses.move m, h.body.move m⟩
theorem EC.Ok.move {x : EC} (h : x.Ok S W) (m : Mv S W S' W') : x.Ok S' W' := ⟨h.patterns.move m, h.guards.move m, h.body.move m⟩
theorem ND.at_iff (t : ND) (b o : Nat) : t.At S W b o ↔ ∃ x : EN, x.t = t ∧ x.Ok S W ∧ ∀ i u, x.cells[i]? = some u → W.cell? ⟨b, o + i, none⟩ = some u := by
  cases t with
  | mk k n s a l m r =>
    simp only [ND.At]
    constructor
    · rintro ⟨h0, h1, h2, h3, ⟨A, c, h4, h41, h42, h43⟩, ⟨B, d, h5, h51, h52, h53⟩, ⟨C, e, h6, h61, h62, h63⟩⟩
      refine ⟨⟨.mk k n s a l m r, A, c, B, d, C, e⟩, rfl, ⟨⟨h41, h42, h43⟩, ⟨h51, h52, h53⟩, ⟨h61, h62, h63⟩⟩, fun i u hu => ?_⟩
      match i with
      | 0 => simp [EN.cells, ND.kind] at hu; subst hu; exact h0
      | 1 => simp [EN.cells, ND.int] at hu; subst hu; exact h1
      | 2 => simp [EN.cells, ND.name] at hu; subst hu; exact h2
      | 3 => simp [EN.cells, ND.at_] at hu; subst hu; exact h3
      | 4 => simp [EN.cells, ND.kids] at hu; subst hu; exact h4
      | 5 => simp [EN.cells, ND.clauses] at hu; subst hu; exact h5
      | 6 => simp [EN.cells, ND.body] at hu; subst hu; exact h6
      | i + 7 => simp [EN.cells] at hu
    · rintro ⟨⟨t, A, c, B, d, C, e⟩, rfl, ⟨h1, h2, h3⟩, hc⟩
      exact ⟨hc 0 _ rfl, hc 1 _ rfl, hc 2 _ rfl, hc 3 _ rfl, ⟨A, c, hc 4 _ rfl, h1⟩, ⟨B, d, hc 5 _ rfl, h2⟩, ⟨C, e, hc 6 _ rfl, h3⟩⟩
theorem CD.at_iff (t : CD) (b o : Nat) : t.At S W b o ↔ ∃ x : EC, x.t = t ∧ x.Ok S W ∧ ∀ i u, x.cells[i]? = some u → W.cell? ⟨b, o + i, none⟩ = some u := by
  cases t with
  | mk p g r s a =>
    simp only [CD.At]
    constructor
    · rintro ⟨⟨A, c, h4, h41, h42, h43⟩, ⟨B, d, h5, h51, h52, h53⟩, ⟨C, e, h6, h61, h62, h63⟩, h0, h1⟩
      refine ⟨⟨.mk p g r s a, A, c, B, d, C, e⟩, rfl, ⟨⟨h41, h42, h43⟩, ⟨h51, h52, h53⟩, ⟨h61, h62, h63⟩⟩, fun i u hu => ?_⟩
      match i with
      | 0 => simp [EC.cells, CD.patterns] at hu; subst hu; exact h4
      | 1 => simp [EC.cells, CD.guards] at hu; subst hu; exact h5
      | 2 => simp [EC.cells, CD.body] at hu; subst hu; exact h6
      | 3 => simp [EC.cells, CD.name] at hu; subst hu; exact h0
      | 4 => simp [EC.cells, CD.at_] at hu; subst hu; exact h1
      | i + 5 => simp [EC.cells] at hu
    · rintro ⟨⟨t, A, c, B, d, C, e⟩, rfl, ⟨h1, h2, h3⟩, hc⟩
      exact ⟨⟨A, c, hc 0 _ rfl, h1⟩, ⟨B, d, hc 1 _ rfl, h2⟩, ⟨C, e, hc 2 _ rfl, h3⟩, hc 3 _ rfl, hc 4 _ rfl⟩
/-- A row, as elements with their slices. -/
theorem nd_row (l : List ND) (b o : Nat) : ND.Row S W l b o ↔ ∃ xs : List EN, xs.map (·.t) = l ∧ (∀ x ∈ xs, x.Ok S W) ∧ ∀ j u, (enL xs)[j]? = some u → W.cell? ⟨b, o + j, none⟩ = some u := by
  induction l generalizing o with
  | nil => exact ⟨fun _ => ⟨[], rfl, fun x hx => by simp at hx, fun j u hu => by simp [flat] at hu⟩, fun _ => by simp [ND.Row]⟩
  | cons t r ih =>
    simp only [ND.Row, ih, ND.at_iff]
    constructor
    · rintro ⟨⟨x, rfl, hx, hc⟩, xs, rfl, hxs, hcs⟩
      refine ⟨x :: xs, rfl, fun y hy => ?_, fun j u hu => ?_⟩
      · rcases List.mem_cons.1 hy with rfl | hy
        · exact hx
        · exact hxs y hy
      · rw [enL_cons] at hu
        rcases Nat.lt_or_ge j 7 with hj | hj
        · rw [List.getElem?_append_left (by rw [EN.cells_len]; exact hj)] at hu
          exact hc j u hu
        · rw [List.getElem?_append_right (by rw [EN.cells_len]; exact hj), EN.cells_len] at hu
          have := hcs _ u hu
          rwa [show o + 7 + (j - 7) = o + j by omega] at this
    · rintro ⟨xs, he, hxs, hcs⟩
      match xs, he with
      | x :: xs, he =>
        simp only [List.map_cons, List.cons.injEq] at he
        refine ⟨⟨x, he.1, hxs x (by simp), fun i u hu => hcs i u ?_⟩, xs, he.2, fun y hy => hxs y (by simp [hy]), fun j u hu => ?_⟩
        · rw [enL_cons, List.getElem?_append_left (by have := (List.getElem?_eq_some_iff.1 hu).1; exact this)]
          exact hu
        · rw [show o + 7 + j = o + (j + 7) by omega]
          refine hcs _ u ?_
          rw [enL_cons, List.getElem?_append_right (by rw [EN.cells_len]; omega), EN.cells_len, Nat.add_sub_cancel]
          exact hu
theorem cd_row (l : List CD) (b o : Nat) : CD.Row S W l b o ↔ ∃ xs : List EC, xs.map (·.t) = l ∧ (∀ x ∈ xs, x.Ok S W) ∧ ∀ j u, (ecL xs)[j]? = some u → W.cell? ⟨b, o + j, none⟩ = some u := by
  induction l generalizing o with
  | nil => exact ⟨fun _ => ⟨[], rfl, fun x hx => by simp at hx, fun j u hu => by simp [flat] at hu⟩, fun _ => by simp [CD.Row]⟩
  | cons t r ih =>
    simp only [CD.Row, ih, CD.at_iff]
    constructor
    · rintro ⟨⟨x, rfl, hx, hc⟩, xs, rfl, hxs, hcs⟩
      refine ⟨x :: xs, rfl, fun y hy => ?_, fun j u hu => ?_⟩
      · rcases List.mem_cons.1 hy with rfl | hy
        · exact hx
        · exact hxs y hy
      · rw [ecL_cons] at hu
        rcases Nat.lt_or_ge j 5 with hj | hj
        · rw [List.getElem?_append_left (by rw [EC.cells_len]; exact hj)] at hu
          exact hc j u hu
        · rw [List.getElem?_append_right (by rw [EC.cells_len]; exact hj), EC.cells_len] at hu
          have := hcs _ u hu
          rwa [show o + 5 + (j - 5) = o + j by omega] at this
    · rintro ⟨xs, he, hxs, hcs⟩
      match xs, he with
      | x :: xs, he =>
        simp only [List.map_cons, List.cons.injEq] at he
        refine ⟨⟨x, he.1, hxs x (by simp), fun i u hu => hcs i u ?_⟩, xs, he.2, fun y hy => hxs y (by simp [hy]), fun j u hu => ?_⟩
        · rw [ecL_cons, List.getElem?_append_left (by have := (List.getElem?_eq_some_iff.1 hu).1; exact this)]
          exact hu
        · rw [show o + 5 + j = o + (j + 5) by omega]
          refine hcs _ u ?_
          rw [ecL_cons, List.getElem?_append_right (by rw [EC.cells_len]; omega), EC.cells_len, Nat.add_sub_cancel]
          exact hu
theorem cs_off {A : Option Addr} {b o : Nat} {xs : List Value} (hA : A = some ⟨b, o, none⟩) (h : ∀ j u, xs[j]? = some u → W.cell? ⟨b, o + j, none⟩ = some u) : Cs W A xs := .inr ⟨_, hA, fun j u hu => by rw [Addr.add_lit]; exact h j u hu⟩
/-- What a slice of nodes reads as, element by element. -/
theorem RdN.rows {A : Option Addr} {c : Nat} {l : List ND} (h : RdN S W A c l) : ∃ xs : List EN, xs.map (·.t) = l ∧ (∀ x ∈ xs, x.Ok S W) ∧ Cs W A (enL xs) := by
  rcases h.2.2 with rfl | ⟨b, o, hA, _, hr⟩
  · exact ⟨[], rfl, fun x hx => by simp at hx, .inl rfl⟩
  · obtain ⟨xs, h1, h2, h3⟩ := (nd_row _ _ _).1 hr
    exact ⟨xs, h1, h2, cs_off hA h3⟩
theorem RdC.rows {A : Option Addr} {c : Nat} {l : List CD} (h : RdC S W A c l) : ∃ xs : List EC, xs.map (·.t) = l ∧ (∀ x ∈ xs, x.Ok S W) ∧ Cs W A (ecL xs) := by
  rcases h.2.2 with rfl | ⟨b, o, hA, _, hr⟩
  · exact ⟨[], rfl, fun x hx => by simp at hx, .inl rfl⟩
  · obtain ⟨xs, h1, h2, h3⟩ := (cd_row _ _ _).1 hr
    exact ⟨xs, h1, h2, cs_off hA h3⟩
/-- A row of the call's own reads as its nodes. -/
theorem rdn_of_own {base n cap : Nat} {A : Option Addr} {xs : List EN} (ho : W.ownsRow base 29 7 (.slice A n cap) n (enL xs)) (hn : xs.length = n) (hS : ∀ g, (Value.slice A n cap).ownBlock = some g → ¬ S g) (hx : ∀ x ∈ xs, x.Ok S W) : RdN S W A cap (xs.map (·.t)) := by
  rcases ho.2 with ⟨hv, hz⟩ | ⟨g, cap', cur, hv, _, hg, hnc, hcm, _, _⟩
  · obtain ⟨rfl, _, rfl⟩ := Value.slice.inj hv
    obtain rfl : xs = [] := List.eq_nil_of_length_eq_zero (by omega)
    exact RdN.nil_ _ _ _ (by omega)
  · obtain ⟨rfl, _, rfl⟩ := Value.slice.inj hv
    refine ⟨by simp; omega, by unfold maxLen at hcm; omega, .inr ⟨g, 0, rfl, hS g rfl, (nd_row _ _ _).2 ⟨xs, rfl, hx, fun j u hu => ?_⟩⟩⟩
    have := ho.cells (g := g) rfl j u hu
    rwa [Addr.add_lit] at this
theorem rdc_of_own {base n cap : Nat} {A : Option Addr} {xs : List EC} (ho : W.ownsRow base 139 5 (.slice A n cap) n (ecL xs)) (hn : xs.length = n) (hS : ∀ g, (Value.slice A n cap).ownBlock = some g → ¬ S g) (hx : ∀ x ∈ xs, x.Ok S W) : RdC S W A cap (xs.map (·.t)) := by
  rcases ho.2 with ⟨hv, hz⟩ | ⟨g, cap', cur, hv, _, hg, hnc, hcm, _, _⟩
  · obtain ⟨rfl, _, rfl⟩ := Value.slice.inj hv
    obtain rfl : xs = [] := List.eq_nil_of_length_eq_zero (by omega)
    exact RdC.nil_ _ _ _ (by omega)
  · obtain ⟨rfl, _, rfl⟩ := Value.slice.inj hv
    refine ⟨by simp; omega, by unfold maxLen at hcm; omega, .inr ⟨g, 0, rfl, hS g rfl, (cd_row _ _ _).2 ⟨xs, rfl, hx, fun j u hu => ?_⟩⟩⟩
    have := ho.cells (g := g) rfl j u hu
    rwa [Addr.add_lit] at this
/-- A block that was made reads as its nodes. -/
theorem rdn_of_blk {g : Nat} {xs : List EN} (hb : Blk W g 29 (enL xs).toArray) (hS : ¬ S g) (hn : xs.length ≤ 1000000) (hx : ∀ x ∈ xs, x.Ok S W) : RdN S W (some ⟨g, 0, none⟩) xs.length (xs.map (·.t)) :=
  ⟨by simp, by omega, .inr ⟨g, 0, rfl, hS, (nd_row _ _ _).2 ⟨xs, rfl, hx, fun j u hu => by rw [Nat.zero_add, hb.cell]; simpa using hu⟩⟩⟩
end
theorem nodeT : ElT Tryz.prog 26 29 (.agg #[.int .i64 0, .int .i64 0, .string ⟨#[]⟩, .int .i64 0, .slice none 0 0, .slice none 0 0, .slice none 0 0]) 7 112 := ⟨Tryz.underlying26, by kernel_rfl, rfl, by omega⟩
theorem clauseT : ElT Tryz.prog 27 139 (.agg #[.slice none 0 0, .slice none 0 0, .slice none 0 0, .string ⟨#[]⟩, .int .i64 0]) 5 96 := ⟨Tryz.underlying27, by kernel_rfl, rfl, by omega⟩
end Go.Proofs.YtmpknhdfglbocaaGreat
