/- Layer 11: trees of programs in memory: nodes of seven cells, clauses of five. No function of the program is named here. Layer 11: the document's parser in memory; place, fail, is, take, must, kind. -/
import Derived.Test.YthhindnjnijglaaPaB
import Derived.Test.YthhindnjnijglaaRdX
import Derived.StillTailTactics
import Derived.BigQuiet
import Derived.Deep.QuietTactic
import Derived.IntWalk
import Derived.Deep.DeepCutAuto
import Derived.Deep.CutBlock
import Derived.Deep.RegionHeld3
namespace Go.Proofs.Ythhindnjnijglaa
section
open Go.RowKit
set_option linter.unusedVariables false

/-! ### rows of elements of some cells -/
section
variable {α : Type} (f : α → List Value)
def flat (xs : List α) : List Value := xs.flatMap f
theorem flat_nil : flat f [] = [] := rfl
theorem flat_cons (x : α) (r : List α) : flat f (x :: r) = f x ++ flat f r := by simp [flat]
theorem flat_append (a b : List α) : flat f (a ++ b) = flat f a ++ flat f b := by simp [flat]
theorem flat_one (x : α) : flat f [x] = f x := by simp [flat]
variable {f} {z : Nat} (hz : ∀ x, (f x).length = z)
include hz
theorem flat_len (xs : List α) : (flat f xs).length = xs.length * z := by
  induction xs with
  | nil => simp [flat]
  | cons x r ih => rw [flat_cons, List.length_append, hz, ih, List.length_cons, Nat.succ_mul, Nat.add_comm]
theorem flat_at : ∀ (xs : List α) (k i : Nat) (h : k < xs.length), i < z → (flat f xs)[k * z + i]? = (f xs[k])[i]?
  | x :: r, 0, i, _, hi => by
    rw [flat_cons, Nat.zero_mul, Nat.zero_add, List.getElem_cons_zero, List.getElem?_append_left (by rw [hz]; exact hi)]
  | x :: r, k + 1, i, h, hi => by
    rw [flat_cons, List.getElem_cons_succ, List.getElem?_append_right (by rw [hz, Nat.succ_mul]; omega), hz, show (k + 1) * z + i - z = k * z + i by rw [Nat.succ_mul]; omega]
    exact flat_at r k i (by simpa using h) hi
  | [], _, _, h, _ => by simp at h
omit hz in
theorem flat_one' (h1 : ∀ x, ∀ u ∈ f x, u.oneCell' = true) (xs : List α) : ∀ u ∈ flat f xs, u.oneCell' = true := by
  intro u hu
  obtain ⟨x, _, hx⟩ := List.mem_flatMap.1 hu
  exact h1 x u hx
end

mutual
/-- A node in memory, none of its blocks in S. -/
def ND.At (S : Nat → Prop) (W : World) : ND → Nat → Nat → Prop
  | .mk k n s a l m r, b, o => W.cell? ⟨b, o, none⟩ = some (.int .i64 k) ∧ W.cell? ⟨b, o + 1, none⟩ = some (.int .i64 n) ∧ W.cell? ⟨b, o + 2, none⟩ = some (.string ⟨s.toArray⟩) ∧ W.cell? ⟨b, o + 3, none⟩ = some (.int .i64 a) ∧
      (∃ A c, W.cell? ⟨b, o + 4, none⟩ = some (.slice A l.length c) ∧ l.length ≤ c ∧ c ≤ 9223372036854775807 ∧ (l = [] ∨ ∃ b' o', A = some ⟨b', o', none⟩ ∧ ¬ S b' ∧ ND.Row S W l b' o')) ∧
      (∃ A c, W.cell? ⟨b, o + 5, none⟩ = some (.slice A m.length c) ∧ m.length ≤ c ∧ c ≤ 9223372036854775807 ∧ (m = [] ∨ ∃ b' o', A = some ⟨b', o', none⟩ ∧ ¬ S b' ∧ CD.Row S W m b' o')) ∧
      (∃ A c, W.cell? ⟨b, o + 6, none⟩ = some (.slice A r.length c) ∧ r.length ≤ c ∧ c ≤ 9223372036854775807 ∧ (r = [] ∨ ∃ b' o', A = some ⟨b', o', none⟩ ∧ ¬ S b' ∧ ND.Row S W r b' o'))
def ND.Row (S : Nat → Prop) (W : World) : List ND → Nat → Nat → Prop
  | [], _, _ => True
  | t :: r, b, o => t.At S W b o ∧ ND.Row S W r b (o + 7)
def CD.At (S : Nat → Prop) (W : World) : CD → Nat → Nat → Prop
  | .mk p g r s a, b, o =>
      (∃ A c, W.cell? ⟨b, o, none⟩ = some (.slice A p.length c) ∧ p.length ≤ c ∧ c ≤ 9223372036854775807 ∧ (p = [] ∨ ∃ b' o', A = some ⟨b', o', none⟩ ∧ ¬ S b' ∧ ND.Row S W p b' o')) ∧
      (∃ A c, W.cell? ⟨b, o + 1, none⟩ = some (.slice A g.length c) ∧ g.length ≤ c ∧ c ≤ 9223372036854775807 ∧ (g = [] ∨ ∃ b' o', A = some ⟨b', o', none⟩ ∧ ¬ S b' ∧ ND.Row S W g b' o')) ∧
      (∃ A c, W.cell? ⟨b, o + 2, none⟩ = some (.slice A r.length c) ∧ r.length ≤ c ∧ c ≤ 9223372036854775807 ∧ (r = [] ∨ ∃ b' o', A = some ⟨b', o', none⟩ ∧ ¬ S b' ∧ ND.Row S W r b' o')) ∧
      W.cell? ⟨b, o + 3, none⟩ = some (.string ⟨s.toArray⟩) ∧ W.cell? ⟨b, o + 4, none⟩ = some (.int .i64 a)
def CD.Row (S : Nat → Prop) (W : World) : List CD → Nat → Nat → Prop
  | [], _, _ => True
  | t :: r, b, o => t.At S W b o ∧ CD.Row S W r b (o + 5)
end

/-- A slice reads as these nodes, none of their blocks in S. -/
def RdN (S : Nat → Prop) (W : World) (A : Option Addr) (c : Nat) (l : List ND) : Prop := l.length ≤ c ∧ c ≤ 9223372036854775807 ∧ (l = [] ∨ ∃ b o, A = some ⟨b, o, none⟩ ∧ ¬ S b ∧ ND.Row S W l b o)
def RdC (S : Nat → Prop) (W : World) (A : Option Addr) (c : Nat) (l : List CD) : Prop := l.length ≤ c ∧ c ≤ 9223372036854775807 ∧ (l = [] ∨ ∃ b o, A = some ⟨b, o, none⟩ ∧ ¬ S b ∧ CD.Row S W l b o)

/-- From one world and one set to others: the cells outside of S stand, and what is in the new set was in S, or is new. -/
structure Mv (S : Nat → Prop) (W : World) (S' : Nat → Prop) (W' : World) : Prop where
  keep : KeepEx S W W'
  sub : ∀ k, k < W.heap.size → S' k → S k
section
variable {S S' : Nat → Prop} {W W' : World}
theorem Mv.cell (h : Mv S W S' W') {b o : Nat} {v : Value} (hb : ¬ S b) (hv : W.cell? ⟨b, o, none⟩ = some v) : W'.cell? ⟨b, o, none⟩ = some v := h.keep.cells _ hb _ hv
theorem nd_lt {l : List ND} (hl : l ≠ []) {b o : Nat} (h : ND.Row S W l b o) : b < W.heap.size := by
  match l, hl, h with
  | .mk _ _ _ _ _ _ _ :: _, _, h =>
    simp only [ND.Row, ND.At] at h
    exact World.block_lt_of_cell? W ⟨b, o, none⟩ h.1.1
theorem cd_lt {l : List CD} (hl : l ≠ []) {b o : Nat} (h : CD.Row S W l b o) : b < W.heap.size := by
  match l, hl, h with
  | .mk _ _ _ _ _ :: _, _, h =>
    simp only [CD.Row, CD.At] at h
    exact World.block_lt_of_cell? W ⟨b, o + 3, none⟩ h.1.2.2.2.1
mutual
theorem ND.At.move (h : Mv S W S' W') : ∀ (t : ND) (b o : Nat), ¬ S b → t.At S W b o → t.At S' W' b o
  | .mk k n s a l m r, b, o, hb, ht => by
    simp only [ND.At] at ht ⊢
    obtain ⟨h0, h1, h2, h3, ⟨A, c, h4, h41, h42, h43⟩, ⟨B, d, h5, h51, h52, h53⟩, ⟨C, e, h6, h61, h62, h63⟩⟩ := ht
    refine ⟨h.cell hb h0, h.cell hb h1, h.cell hb h2, h.cell hb h3, ⟨A, c, h.cell hb h4, h41, h42, ?_⟩, ⟨B, d, h.cell hb h5, h51, h52, ?_⟩, ⟨C, e, h.cell hb h6, h61, h62, ?_⟩⟩
    · rcases h43 with h43 | ⟨b', o', e1, e2, e3⟩
      · exact .inl h43
      · exact (Classical.em (l = [])).elim .inl fun hl => .inr ⟨b', o', e1, fun q => e2 (h.sub _ (nd_lt hl e3) q), ND.Row.move h l b' o' e2 e3⟩
    · rcases h53 with h53 | ⟨b', o', e1, e2, e3⟩
      · exact .inl h53
      · exact (Classical.em (m = [])).elim .inl fun hl => .inr ⟨b', o', e1, fun q => e2 (h.sub _ (cd_lt hl e3) q), CD.Row.move h m b' o' e2 e3⟩
    · rcases h63 with h63 | ⟨b', o', e1, e2, e3⟩
      · exact .inl h63
      · exact (Classical.em (r = [])).elim .inl fun hl => .inr ⟨b', o', e1, fun q => e2 (h.sub _ (nd_lt hl e3) q), ND.Row.move h r b' o' e2 e3⟩
theorem ND.Row.move (h : Mv S W S' W') : ∀ (l : List ND) (b o : Nat), ¬ S b → ND.Row S W l b o → ND.Row S' W' l b o
  | [], _, _, _, _ => by simp [ND.Row]
  | t :: r, b, o, hb, hr => by
    simp only [ND.Row] at hr ⊢
    exact ⟨ND.At.move h t b o hb hr.1, ND.Row.move h r b (o + 7) hb hr.2⟩
theorem CD.At.move (h : Mv S W S' W') : ∀ (t : CD) (b o : Nat), ¬ S b → t.At S W b o → t.At S' W' b o
  | .mk p g r s a, b, o, hb, ht => by
    simp only [CD.At] at ht ⊢
    obtain ⟨⟨A, c, h4, h41, h42, h43⟩, ⟨B, d, h5, h51, h52, h53⟩, ⟨C, e, h6, h61, h62, h63⟩, h0, h1⟩ := ht
    refine ⟨⟨A, c, h.cell hb h4, h41, h42, ?_⟩, ⟨B, d, h.cell hb h5, h51, h52, ?_⟩, ⟨C, e, h.cell hb h6, h61, h62, ?_⟩, h.cell hb h0, h.cell hb h1⟩
    · rcases h43 with h43 | ⟨b', o', e1, e2, e3⟩
      · exact .inl h43
      · exact (Classical.em (p = [])).elim .inl fun hl => .inr ⟨b', o', e1, fun q => e2 (h.sub _ (nd_lt hl e3) q), ND.Row.move h p b' o' e2 e3⟩
    · rcases h53 with h53 | ⟨b', o', e1, e2, e3⟩
      · exact .inl h53
      · exact (Classical.em (g = [])).elim .inl fun hl => .inr ⟨b', o', e1, fun q => e2 (h.sub _ (nd_lt hl e3) q), ND.Row.move h g b' o' e2 e3⟩
    · rcases h63 with h63 | ⟨b', o', e1, e2, e3⟩
      · exact .inl h63
      · exact (Classical.em (r = [])).elim .inl fun hl => .inr ⟨b', o', e1, fun q => e2 (h.sub _ (nd_lt hl e3) q), ND.Row.move h r b' o' e2 e3⟩
theorem CD.Row.move (h : Mv S W S' W') : ∀ (l : List CD) (b o : Nat), ¬ S b → CD.Row S W l b o → CD.Row S' W' l b o
  | [], _, _, _, _ => by simp [CD.Row]
  | t :: r, b, o, hb, hr => by
    simp only [CD.Row] at hr ⊢
    exact ⟨CD.At.move h t b o hb hr.1, CD.Row.move h r b (o + 5) hb hr.2⟩
end
theorem RdN.move {A : Option Addr} {c : Nat} {l : List ND} (h : RdN S W A c l) (m : Mv S W S' W') : RdN S' W' A c l := by
  obtain ⟨h1, h2, h3⟩ := h
  refine ⟨h1, h2, ?_⟩
  rcases h3 with h3 | ⟨b, o, e1, e2, e3⟩
  · exact .inl h3
  · exact (Classical.em (l = [])).elim .inl fun hl => .inr ⟨b, o, e1, fun q => e2 (m.sub _ (nd_lt hl e3) q), ND.Row.move m l b o e2 e3⟩
theorem RdC.move {A : Option Addr} {c : Nat} {l : List CD} (h : RdC S W A c l) (m : Mv S W S' W') : RdC S' W' A c l := by
  obtain ⟨h1, h2, h3⟩ := h
  refine ⟨h1, h2, ?_⟩
  rcases h3 with h3 | ⟨b, o, e1, e2, e3⟩
  · exact .inl h3
  · exact (Classical.em (l = [])).elim .inl fun hl => .inr ⟨b, o, e1, fun q => e2 (m.sub _ (cd_lt hl e3) q), CD.Row.move m l b o e2 e3⟩
theorem RdN.nil_ (S : Nat → Prop) (W : World) (A : Option Addr) {c : Nat} (hc : c ≤ 9223372036854775807) : RdN S W A c [] := ⟨Nat.zero_le _, hc, .inl rfl⟩
theorem RdC.nil_ (S : Nat → Prop) (W : World) (A : Option Addr) {c : Nat} (hc : c ≤ 9223372036854775807) : RdC S W A c [] := ⟨Nat.zero_le _, hc, .inl rfl⟩
end

/-- A node with its slices. -/
structure EN where
  t : ND
  A : Option Addr
  c : Nat
  B : Option Addr
  d : Nat
  C : Option Addr
  e : Nat
def EN.cells (x : EN) : List Value := [.int .i64 x.t.kind, .int .i64 x.t.int, .string ⟨x.t.name.toArray⟩, .int .i64 x.t.at_, .slice x.A x.t.kids.length x.c, .slice x.B x.t.clauses.length x.d, .slice x.C x.t.body.length x.e]
def EN.agg (x : EN) : Value := .agg #[.int .i64 x.t.kind, .int .i64 x.t.int, .string ⟨x.t.name.toArray⟩, .int .i64 x.t.at_, .slice x.A x.t.kids.length x.c, .slice x.B x.t.clauses.length x.d, .slice x.C x.t.body.length x.e]
structure EN.Ok (S : Nat → Prop) (W : World) (x : EN) : Prop where
  kids : RdN S W x.A x.c x.t.kids
  clauses : RdC S W x.B x.d x.t.clauses
  body : RdN S W x.C x.e x.t.body
/-- A clause with its slices. -/
structure EC where
  t : CD
  A : Option Addr
  c : Nat
  B : Option Addr
  d : Nat
  C : Option Addr
  e : Nat
def EC.cells (x : EC) : List Value := [.slice x.A x.t.patterns.length x.c, .slice x.B x.t.guards.length x.d, .slice x.C x.t.body.length x.e, .string ⟨x.t.name.toArray⟩, .int .i64 x.t.at_]
def EC.agg (x : EC) : Value := .agg #[.slice x.A x.t.patterns.length x.c, .slice x.B x.t.guards.length x.d, .slice x.C x.t.body.length x.e, .string ⟨x.t.name.toArray⟩, .int .i64 x.t.at_]
structure EC.Ok (S : Nat → Prop) (W : World) (x : EC) : Prop where
  patterns : RdN S W x.A x.c x.t.patterns
  guards : RdN S W x.B x.d x.t.guards
  body : RdN S W x.C x.e x.t.body
theorem EN.cells_len (x : EN) : x.cells.length = 7 := rfl
theorem EC.cells_len (x : EC) : x.cells.length = 5 := rfl
theorem EN.cells_one (x : EN) : ∀ u ∈ x.cells, u.oneCell' = true := by
  intro u hu
  simp only [EN.cells, List.mem_cons, List.mem_nil_iff, or_false] at hu
  rcases hu with rfl | rfl | rfl | rfl | rfl | rfl | rfl <;> rfl
theorem EC.cells_one (x : EC) : ∀ u ∈ x.cells, u.oneCell' = true := by
  intro u hu
  simp only [EC.cells, List.mem_cons, List.mem_nil_iff, or_false] at hu
  rcases hu with rfl | rfl | rfl | rfl | rfl <;> rfl
abbrev enL (xs : List EN) : List Value := flat EN.cells xs
abbrev ecL (xs : List EC) : List Value := flat EC.cells xs
theorem enL_cons (x : EN) (r : List EN) : enL (x :: r) = x.cells ++ enL r := flat_cons _ _ _
theorem ecL_cons (x : EC) (r : List EC) : ecL (x :: r) = x.cells ++ ecL r := flat_cons _ _ _
section
variable {S S' : Nat → Prop} {W W' : World}
theorem EN.Ok.move {x : EN} (h : x.Ok S W) (m : Mv S W S' W') : x.Ok S' W' := ⟨h.kids.move m, h.clauses.move m, h.body.move m⟩
theorem EC.Ok.move {x : EC} (h : x.Ok S W) (m : Mv S W S' W') : x.Ok S' W' := ⟨h.patterns.move m, h.guards.move m, h.body.move m⟩
theorem ND.at_iff (t : ND) (b o : Nat) : t.At S W b o ↔ ∃ x : EN, x.t = t ∧ x.Ok S W ∧ ∀ i u, x.cells[i]? = some u → W.cell? ⟨b, o + i, none⟩ = some u := by
  cases t with
  | mk k n s a l m r =>
    simp only [ND.At]
    constructor
    · rintro ⟨h0, h1, h2, h3, ⟨A, c, h4, h41, h42, h43⟩, ⟨B, d, h5, h51, h52, h53⟩, ⟨C, e, h6, h61, h62, h63⟩⟩
      refine ⟨⟨.mk k n s a l m r, A, c, B, d, C, e⟩, rfl, ⟨⟨h41, h42, h43⟩, ⟨h51, h52, h53⟩, ⟨h61, h62, h63⟩⟩, fun i u hu => ?_⟩
      match i with
      | 0 => simp [EN.cells, ND.kind] at hu; subst hu; exact h0
      | 1 => simp [EN.cells, ND.int] at hu; subst hu; exact h1
      | 2 => simp [EN.cells, ND.name] at hu; subst hu; exact h2
      | 3 => simp [EN.cells, ND.at_] at hu; subst hu; exact h3
      | 4 => simp [EN.cells, ND.kids] at hu; subst hu; exact h4
      | 5 => simp [EN.cells, ND.clauses] at hu; subst hu; exact h5
      | 6 => simp [EN.cells, ND.body] at hu; subst hu; exact h6
      | i + 7 => simp [EN.cells] at hu
    · rintro ⟨⟨t, A, c, B, d, C, e⟩, rfl, ⟨h1, h2, h3⟩, hc⟩
      exact ⟨hc 0 _ rfl, hc 1 _ rfl, hc 2 _ rfl, hc 3 _ rfl, ⟨A, c, hc 4 _ rfl, h1⟩, ⟨B, d, hc 5 _ rfl, h2⟩, ⟨C, e, hc 6 _ rfl, h3⟩⟩
theorem CD.at_iff (t : CD) (b o : Nat) : t.At S W b o ↔ ∃ x : EC, x.t = t ∧ x.Ok S W ∧ ∀ i u, x.cells[i]? = some u → W.cell? ⟨b, o + i, none⟩ = some u := by
  cases t with
  | mk p g r s a =>
    simp only [CD.At]
    constructor
    · rintro ⟨⟨A, c, h4, h41, h42, h43⟩, ⟨B, d, h5, h51, h52, h53⟩, ⟨C, e, h6, h61, h62, h63⟩, h0, h1⟩
      refine ⟨⟨.mk p g r s a, A, c, B, d, C, e⟩, rfl, ⟨⟨h41, h42, h43⟩, ⟨h51, h52, h53⟩, ⟨h61, h62, h63⟩⟩, fun i u hu => ?_⟩
      match i with
      | 0 => simp [EC.cells, CD.patterns] at hu; subst hu; exact h4
      | 1 => simp [EC.cells, CD.guards] at hu; subst hu; exact h5
      | 2 => simp [EC.cells, CD.body] at hu; subst hu; exact h6
      | 3 => simp [EC.cells, CD.name] at hu; subst hu; exact h0
      | 4 => simp [EC.cells, CD.at_] at hu; subst hu; exact h1
      | i + 5 => simp [EC.cells] at hu
    · rintro ⟨⟨t, A, c, B, d, C, e⟩, rfl, ⟨h1, h2, h3⟩, hc⟩
      exact ⟨⟨A, c, hc 0 _ rfl, h1⟩, ⟨B, d, hc 1 _ rfl, h2⟩, ⟨C, e, hc 2 _ rfl, h3⟩, hc 3 _ rfl, hc 4 _ rfl⟩
/-- A row, as elements with their slices. -/
theorem nd_row (l : List ND) (b o : Nat) : ND.Row S W l b o ↔ ∃ xs : List EN, xs.map (·.t) = l ∧ (∀ x ∈ xs, x.Ok S W) ∧ ∀ j u, (enL xs)[j]? = some u → W.cell? ⟨b, o + j, none⟩ = some u := by
  induction l generalizing o with
  | nil => exact ⟨fun _ => ⟨[], rfl, fun x hx => by simp at hx, fun j u hu => by simp [flat] at hu⟩, fun _ => by simp [ND.Row]⟩
  | cons t r ih =>
    simp only [ND.Row, ih, ND.at_iff]
    constructor
    · rintro ⟨⟨x, rfl, hx, hc⟩, xs, rfl, hxs, hcs⟩
      refine ⟨x :: xs, rfl, fun y hy => ?_, fun j u hu => ?_⟩
      · rcases List.mem_cons.1 hy with rfl | hy
        · exact hx
        · exact hxs y hy
      · rw [enL_cons] at hu
        rcases Nat.lt_or_ge j 7 with hj | hj
        · rw [List.getElem?_append_left (by rw [EN.cells_len]; exact hj)] at hu
          exact hc j u hu
        · rw [List.getElem?_append_right (by rw [EN.cells_len]; exact hj), EN.cells_len] at hu
          have := hcs _ u hu
          rwa [show o + 7 + (j - 7) = o + j by omega] at this
    · rintro ⟨xs, he, hxs, hcs⟩
      match xs, he with
      | x :: xs, he =>
        simp only [List.map_cons, List.cons.injEq] at he
        refine ⟨⟨x, he.1, hxs x (by simp), fun i u hu => hcs i u ?_⟩, xs, he.2, fun y hy => hxs y (by simp [hy]), fun j u hu => ?_⟩
        · rw [enL_cons, List.getElem?_append_left (by have := (List.getElem?_eq_some_iff.1 hu).1; exact this)]
          exact hu
        · rw [show o + 7 + j = o + (j + 7) by omega]
          refine hcs _ u ?_
          rw [enL_cons, List.getElem?_append_right (by rw [EN.cells_len]; omega), EN.cells_len, Nat.add_sub_cancel]
          exact hu
theorem cd_row (l : List CD) (b o : Nat) : CD.Row S W l b o ↔ ∃ xs : List EC, xs.map (·.t) = l ∧ (∀ x ∈ xs, x.Ok S W) ∧ ∀ j u, (ecL xs)[j]? = some u → W.cell? ⟨b, o + j, none⟩ = some u := by
  induction l generalizing o with
  | nil => exact ⟨fun _ => ⟨[], rfl, fun x hx => by simp at hx, fun j u hu => by simp [flat] at hu⟩, fun _ => by simp [CD.Row]⟩
  | cons t r ih =>
    simp only [CD.Row, ih, CD.at_iff]
    constructor
    · rintro ⟨⟨x, rfl, hx, hc⟩, xs, rfl, hxs, hcs⟩
      refine ⟨x :: xs, rfl, fun y hy => ?_, fun j u hu => ?_⟩
      · rcases List.mem_cons.1 hy with rfl | hy
        · exact hx
        · exact hxs y hy
      · rw [ecL_cons] at hu
        rcases Nat.lt_or_ge j 5 with hj | hj
        · rw [List.getElem?_append_left (by rw [EC.cells_len]; exact hj)] at hu
          exact hc j u hu
        · rw [List.getElem?_append_right (by rw [EC.cells_len]; exact hj), EC.cells_len] at hu
          have := hcs _ u hu
          rwa [show o + 5 + (j - 5) = o + j by omega] at this
    · rintro ⟨xs, he, hxs, hcs⟩
      match xs, he with
      | x :: xs, he =>
        simp only [List.map_cons, List.cons.injEq] at he
        refine ⟨⟨x, he.1, hxs x (by simp), fun i u hu => hcs i u ?_⟩, xs, he.2, fun y hy => hxs y (by simp [hy]), fun j u hu => ?_⟩
        · rw [ecL_cons, List.getElem?_append_left (by have := (List.getElem?_eq_some_iff.1 hu).1; exact this)]
          exact hu
        · rw [show o + 5 + j = o + (j + 5) by omega]
          refine hcs _ u ?_
          rw [ecL_cons, List.getElem?_append_right (by rw [EC.cells_len]; omega), EC.cells_len, Nat.add_sub_cancel]
          exact hu
theorem cs_off {A : Option Addr} {b o : Nat} {xs : List Value} (hA : A = some ⟨b, o, none⟩) (h : ∀ j u, xs[j]? = some u → W.cell? ⟨b, o + j, none⟩ = some u) : Cs W A xs := .inr ⟨_, hA, fun j u hu => by rw [Addr.add_lit]; exact h j u hu⟩
/-- What a slice of nodes reads as, element by element. -/
theorem RdN.rows {A : Option Addr} {c : Nat} {l : List ND} (h : RdN S W A c l) : ∃ xs : List EN, xs.map (·.t) = l ∧ (∀ x ∈ xs, x.Ok S W) ∧ Cs W A (enL xs) := by
  rcases h.2.2 with rfl | ⟨b, o, hA, _, hr⟩
  · exact ⟨[], rfl, fun x hx => by simp at hx, .inl rfl⟩
  · obtain ⟨xs, h1, h2, h3⟩ := (nd_row _ _ _).1 hr
    exact ⟨xs, h1, h2, cs_off hA h3⟩
theorem RdC.rows {A : Option Addr} {c : Nat} {l : List CD} (h : RdC S W A c l) : ∃ xs : List EC, xs.map (·.t) = l ∧ (∀ x ∈ xs, x.Ok S W) ∧ Cs W A (ecL xs) := by
  rcases h.2.2 with rfl | ⟨b, o, hA, _, hr⟩
  · exact ⟨[], rfl, fun x hx => by simp at hx, .inl rfl⟩
  · obtain ⟨xs, h1, h2, h3⟩ := (cd_row _ _ _).1 hr
    exact ⟨xs, h1, h2, cs_off hA h3⟩
/-- A row of the call's own reads as its nodes. -/
theorem rdn_of_own {base n cap : Nat} {A : Option Addr} {xs : List EN} (ho : W.ownsRow base 26 7 (.slice A n cap) n (enL xs)) (hn : xs.length = n) (hS : ∀ g, (Value.slice A n cap).ownBlock = some g → ¬ S g) (hx : ∀ x ∈ xs, x.Ok S W) : RdN S W A cap (xs.map (·.t)) := by
  rcases ho.2 with ⟨hv, hz⟩ | ⟨g, cap', cur, hv, _, hg, hnc, hcm, _, _⟩
  · obtain ⟨rfl, _, rfl⟩ := Value.slice.inj hv
    obtain rfl : xs = [] := List.eq_nil_of_length_eq_zero (by omega)
    exact RdN.nil_ _ _ _ (by omega)
  · obtain ⟨rfl, _, rfl⟩ := Value.slice.inj hv
    refine ⟨by simp; omega, by unfold maxLen at hcm; omega, .inr ⟨g, 0, rfl, hS g rfl, (nd_row _ _ _).2 ⟨xs, rfl, hx, fun j u hu => ?_⟩⟩⟩
    have := ho.cells (g := g) rfl j u hu
    rwa [Addr.add_lit] at this
theorem rdc_of_own {base n cap : Nat} {A : Option Addr} {xs : List EC} (ho : W.ownsRow base 67 5 (.slice A n cap) n (ecL xs)) (hn : xs.length = n) (hS : ∀ g, (Value.slice A n cap).ownBlock = some g → ¬ S g) (hx : ∀ x ∈ xs, x.Ok S W) : RdC S W A cap (xs.map (·.t)) := by
  rcases ho.2 with ⟨hv, hz⟩ | ⟨g, cap', cur, hv, _, hg, hnc, hcm, _, _⟩
  · obtain ⟨rfl, _, rfl⟩ := Value.slice.inj hv
    obtain rfl : xs = [] := List.eq_nil_of_length_eq_zero (by omega)
    exact RdC.nil_ _ _ _ (by omega)
  · obtain ⟨rfl, _, rfl⟩ := Value.slice.inj hv
    refine ⟨by simp; omega, by unfold maxLen at hcm; omega, .inr ⟨g, 0, rfl, hS g rfl, (cd_row _ _ _).2 ⟨xs, rfl, hx, fun j u hu => ?_⟩⟩⟩
    have := ho.cells (g := g) rfl j u hu
    rwa [Addr.add_lit] at this
/-- A block that was made reads as its nodes. -/
theorem rdn_of_blk {g : Nat} {xs : List EN} (hb : Blk W g 26 (enL xs).toArray) (hS : ¬ S g) (hn : xs.length ≤ 1000000) (hx : ∀ x ∈ xs, x.Ok S W) : RdN S W (some ⟨g, 0, none⟩) xs.length (xs.map (·.t)) :=
  ⟨by simp, by omega, .inr ⟨g, 0, rfl, hS, (nd_row _ _ _).2 ⟨xs, rfl, hx, fun j u hu => by rw [Nat.zero_add, hb.cell]; simpa using hu⟩⟩⟩
end
theorem nodeT : ElT Try.prog 23 26 (.agg #[.int .i64 0, .int .i64 0, .string ⟨#[]⟩, .int .i64 0, .slice none 0 0, .slice none 0 0, .slice none 0 0]) 7 112 := ⟨Try.underlying23, by kernel_rfl, rfl, by omega⟩
theorem clauseT : ElT Try.prog 24 67 (.agg #[.slice none 0 0, .slice none 0 0, .slice none 0 0, .string ⟨#[]⟩, .int .i64 0]) 5 96 := ⟨Try.underlying24, by kernel_rfl, rfl, by omega⟩
end
section
open Go.RowKit
set_option linter.unusedVariables false

/-- Tokens in memory. -/
def RdT (W : World) (A : Option Addr) (T : List Tok) : Prop := T = [] ∨ ∃ b o, A = some ⟨b, o, none⟩ ∧ ∀ j, (h : j < T.length) →
  W.cell? ⟨b, o + j * 5, none⟩ = some (.int .i64 (T[j]).kind) ∧ W.cell? ⟨b, o + j * 5 + 1, none⟩ = some (.int .i64 (T[j]).int) ∧ W.cell? ⟨b, o + j * 5 + 2, none⟩ = some (.string ⟨(T[j]).text.toArray⟩) ∧ W.cell? ⟨b, o + j * 5 + 3, none⟩ = some (.int .i64 (((T[j]).at_ : Nat) : Int)) ∧ W.cell? ⟨b, o + j * 5 + 4, none⟩ = some (.int .i64 (((T[j]).fin : Nat) : Int))
/-- The parser in memory. -/
structure PAt (pb : Nat) (A : Option Addr) (c : Nat) (T : List Tok) (fin : Nat) (s : PS) (W : World) : Prop where
  obj : Blk W pb 40 #[.slice A T.length c, .int .i64 (s.i : Int), .int .i64 (fin : Int), .int .i64 s.e, .int .i64 s.at_]
  toks : RdT W A T
  apart : ∀ b o, A = some ⟨b, o, none⟩ → b < pb
  hi : s.i ≤ T.length
  len : T.length ≤ 16384
/-- Only the parser has turned. -/
abbrev PFr (pb : Nat) := Fr (fun k => k = pb)
section
variable {pb : Nat} {A : Option Addr} {c : Nat} {T : List Tok} {fin : Nat} {s : PS} {W W' : World}
theorem RdT.fr {F : Nat → Prop} (h : RdT W A T) (hf : Fr F W W') (hF : ∀ b o, A = some ⟨b, o, none⟩ → ¬ F b) : RdT W' A T := by
  rcases h with h | ⟨b, o, hA, hc⟩
  · exact .inl h
  · have hn := hF b o hA
    have hx : ∀ {i v}, W.cell? ⟨b, i, none⟩ = some v → W'.cell? ⟨b, i, none⟩ = some v := fun hv => (World.cell?_of_block (hf.block b (World.block_lt_of_cell? W _ hv) hn)).trans hv
    exact .inr ⟨b, o, hA, fun j hj => by
      obtain ⟨h0, h1, h2, h3, h4⟩ := hc j hj
      exact ⟨hx h0, hx h1, hx h2, hx h3, hx h4⟩⟩
theorem RdT.at_ (h : RdT W A T) {j : Nat} (hj : j < T.length) : ∃ b o, A = some ⟨b, o, none⟩ ∧ b < W.heap.size ∧
    W.cell? ⟨b, o + j * 5, none⟩ = some (.int .i64 (T[j]).kind) ∧ W.cell? ⟨b, o + j * 5 + 1, none⟩ = some (.int .i64 (T[j]).int) ∧ W.cell? ⟨b, o + j * 5 + 2, none⟩ = some (.string ⟨(T[j]).text.toArray⟩) ∧ W.cell? ⟨b, o + j * 5 + 3, none⟩ = some (.int .i64 (((T[j]).at_ : Nat) : Int)) ∧ W.cell? ⟨b, o + j * 5 + 4, none⟩ = some (.int .i64 (((T[j]).fin : Nat) : Int)) := by
  rcases h with rfl | ⟨b, o, hA, hc⟩
  · simp at hj
  · exact ⟨b, o, hA, World.block_lt_of_cell? W _ (hc j hj).1, hc j hj⟩
theorem PAt.keep (h : PAt pb A c T fin s W) (hb : Below W.heap.size W W') : PAt pb A c T fin s W' :=
  ⟨h.obj.keep hb, h.toks.fr (Fr.of_below hb (fun _ => False)) (fun _ _ _ => id), h.apart, h.hi, h.len⟩
theorem PAt.far {F : Nat → Prop} (h : PAt pb A c T fin s W) (hf : Fr F W W') (hp : ¬ F pb) (hA : ∀ b o, A = some ⟨b, o, none⟩ → ¬ F b) : PAt pb A c T fin s W' :=
  ⟨hf.blk h.obj hp, h.toks.fr hf hA, h.apart, h.hi, h.len⟩
theorem PAt.cells (h : PAt pb A c T fin s W) : W.cell? ⟨pb, 0, none⟩ = some (.slice A T.length c) ∧ W.cell? ⟨pb, 1, none⟩ = some (.int .i64 (s.i : Int)) ∧ W.cell? ⟨pb, 2, none⟩ = some (.int .i64 (fin : Int)) ∧ W.cell? ⟨pb, 3, none⟩ = some (.int .i64 s.e) ∧ W.cell? ⟨pb, 4, none⟩ = some (.int .i64 s.at_) :=
  ⟨h.obj.cell 0, h.obj.cell 1, h.obj.cell 2, h.obj.cell 3, h.obj.cell 4⟩
theorem PAt.setI (h : PAt pb A c T fin s W) (hi : s.i < T.length) {v : Value} (hv : v = .int .i64 ((s.i + 1 : Nat) : Int)) : PAt pb A c T fin (nextP s) (W.setCell ⟨pb, 1, none⟩ v) ∧ PFr pb W (W.setCell ⟨pb, 1, none⟩ v) := by
  subst hv
  have hfr := Fr.setCell (fun k => k = pb) W (p := ⟨pb, 1, none⟩) (fun _ => rfl) (.int .i64 ((s.i + 1 : Nat) : Int))
  exact ⟨⟨h.obj.set_ 1 _, h.toks.fr hfr (fun b o hA => Nat.ne_of_lt (h.apart b o hA)), h.apart, hi, h.len⟩, hfr⟩
theorem PAt.setE (h : PAt pb A c T fin s W) (e : Int) : PAt pb A c T fin { s with e := e } (W.setCell ⟨pb, 3, none⟩ (.int .i64 e)) ∧ PFr pb W (W.setCell ⟨pb, 3, none⟩ (.int .i64 e)) := by
  have hfr := Fr.setCell (fun k => k = pb) W (p := ⟨pb, 3, none⟩) (fun _ => rfl) (.int .i64 e)
  exact ⟨⟨h.obj.set_ 3 _, h.toks.fr hfr (fun b o hA => Nat.ne_of_lt (h.apart b o hA)), h.apart, h.hi, h.len⟩, hfr⟩
theorem PAt.setAt (h : PAt pb A c T fin s W) (e : Int) : PAt pb A c T fin { s with at_ := e } (W.setCell ⟨pb, 4, none⟩ (.int .i64 e)) ∧ PFr pb W (W.setCell ⟨pb, 4, none⟩ (.int .i64 e)) := by
  have hfr := Fr.setCell (fun k => k = pb) W (p := ⟨pb, 4, none⟩) (fun _ => rfl) (.int .i64 e)
  exact ⟨⟨h.obj.set_ 4 _, h.toks.fr hfr (fun b o hA => Nat.ne_of_lt (h.apart b o hA)), h.apart, h.hi, h.len⟩, hfr⟩

set_option maxHeartbeats 1000000 in
theorem place_any (h : PAt pb A c T fin s W) : Calls Try.prog 20 #[.pointer (some ⟨pb, 0, none⟩)] W fun e w' => e = .returned (.int .i64 (placeP T fin s)) ∧ Below W.heap.size W w' := by
  obtain ⟨c0, c1, c2, c3, c4⟩ := h.cells
  have hb0 := Below.refl W.heap.size W
  have hlen := h.len
  by_cases hi : s.i < T.length
  · have HI := Lib.hid (show placeP T fin s = ((T[s.i]).at_ : Nat) by unfold placeP; rw [List.getElem?_eq_getElem hi])
    have hd : decide (s.i < T.length) = true := by simpa using hi
    obtain ⟨b, o, rfl, hlt, t0, t1, t2, t3, t4⟩ := h.toks.at_ hi
    have q1 : (0 : Int) ≤ (s.i : Int) := by omega
    have q2 : (s.i : Int) < (T.length : Int) := by omega
    rw [HI.out]
    generalize T[s.i] = t at *
    clear h HI
    go_enter Try.func20, Try.ntmps20
    go_wp2
    go_quiet (fail)
    go_wp2
    go_quiet (fail)
    go_wp2
    go_ret
    exact ⟨rfl, below_drewN (below_drewN hb0 _) _⟩
  · have HI := Lib.hid (show placeP T fin s = (fin : Int) by unfold placeP; rw [List.getElem?_eq_none (by omega)])
    have hd : decide (s.i < T.length) = false := by simpa using hi
    rw [HI.out]
    go_enter Try.func20, Try.ntmps20
    go_wp2
    go_quiet (fail)
    go_wp2
    go_ret
    exact ⟨rfl, below_drewN hb0 _⟩

set_option maxHeartbeats 1000000 in
theorem pfail_any (h : PAt pb A c T fin s W) (e : Int) : Calls Try.prog 11 #[.pointer (some ⟨pb, 0, none⟩), .int .i64 e] W fun r w' => r = .returned (.tuple #[]) ∧ PAt pb A c T fin (failP T fin e s) w' ∧ PFr pb W w' := by
  obtain ⟨c0, c1, c2, c3, c4⟩ := h.cells
  by_cases he : s.e = 0
  · have HI := Lib.hid (show failP T fin e s = { { s with e := e } with at_ := placeP T fin s } by unfold failP; rw [if_pos he])
    rw [he] at c3
    obtain ⟨HK, HF⟩ := h.setE e
    have HK := Lib.hid HK
    have HF := Lib.hid HF
    have f3 := h.obj.frozen 3
    clear h he
    go_enter Try.func11, Try.ntmps11
    go_upto_region 2 with (fail)
    refine wp_world (fun V => PAt pb A c T fin { s with e := e } V ∧ PFr pb W V) ⟨HK.out, HF.out⟩ ?_
    rintro V ⟨hV, hF⟩
    have HPL := Lib.hid (place_any hV)
    have HV := Lib.hid hV
    have HFV := Lib.hid hF
    clear HK HF c0 c1 c2 c3 c4 hV hF f3
    go_wp2_with (go_at_call 20; refine HPL.out.mono ?_; rintro r V2 ⟨rfl, hb2⟩; have hv2 := HV.out.keep hb2; have f4 := hv2.obj.frozen 4; have g4 := hv2.obj.cell 4)
    go_end0
    rw [HI.out]
    obtain ⟨h1, h2⟩ := hv2.setAt (placeP T fin { s with e := e })
    exact ⟨rfl, h1, (HFV.out.same (Fr.of_below hb2 _)).same h2⟩
  · have HI := Lib.hid (show failP T fin e s = s by unfold failP; rw [if_neg he])
    have hd : (s.e == 0) = false := by simpa using he
    go_enter Try.func11, Try.ntmps11
    go_wp2
    go_end0
    rw [HI.out]
    exact ⟨rfl, h, Fr.refl _ _⟩
def opS (T : List Tok) (l : List (List UInt8)) (s : PS) : PS := if (opP T l s).isSome = true then nextP s else s
theorem opS_some {l : List (List UInt8)} {w : List UInt8} (h : opP T l s = some w) : opS T l s = nextP s := by unfold opS; rw [h]; rfl
theorem opS_none {l : List (List UInt8)} (h : opP T l s = none) : opS T l s = s := by unfold opS; rw [h]; rfl
def tokC (t : Tok) : Array Value := #[.int .i64 t.kind, .int .i64 t.int, .string ⟨t.text.toArray⟩, .int .i64 ((t.at_ : Nat) : Int), .int .i64 ((t.fin : Nat) : Int)]
set_option maxHeartbeats 2000000 in
theorem is_any (h : PAt pb A c T fin s W) (w : List UInt8) : Calls Try.prog 38 #[.pointer (some ⟨pb, 0, none⟩), .string ⟨w.toArray⟩] W fun r w' => r = .returned (.bool (isP T w s)) ∧ Below W.heap.size W w' := by
  obtain ⟨c0, c1, c2, c3, c4⟩ := h.cells
  have hb0 := Below.refl W.heap.size W
  have hlen := h.len
  by_cases he : s.e = 0
  rotate_left
  · have HI := Lib.hid (show isP T w s = false by unfold isP; rw [show (s.e == 0) = false by simpa using he]; rfl)
    have hd : (s.e != 0) = true := by simpa using he
    rw [HI.out]
    go_enter Try.func38, Try.ntmps38
    go_wp2
    go_quiet (fail)
    go_wp2
    go_ret
    exact ⟨rfl, below_drewN hb0 _⟩
  rw [he] at c3
  by_cases hi : s.i < T.length
  rotate_left
  · have HI := Lib.hid (show isP T w s = false by unfold isP; rw [List.getElem?_eq_none (by omega)]; simp)
    have hd : decide (T.length ≤ s.i) = true := by simp; omega
    rw [HI.out]
    clear he h
    go_enter Try.func38, Try.ntmps38
    go_wp2
    go_quiet (fail)
    go_wp2
    go_ret
    exact ⟨rfl, below_drewN hb0 _⟩
  have HI := Lib.hid (show isP T w s = (((T[s.i]).kind == 5 || (T[s.i]).kind == 4) && (T[s.i]).text == w) by unfold isP; rw [List.getElem?_eq_getElem hi, he]; rfl)
  obtain ⟨bb, hbb⟩ : ∃ bb, isP T w s = bb := ⟨_, rfl⟩
  rw [hbb] at HI ⊢
  clear hbb
  have hd : decide (T.length ≤ s.i) = false := by simp; omega
  have HH : Hid (∀ q, PAt pb A c T fin s (W.drewN q)) := fun q => h.keep (below_drewN hb0 q)
  go_enter Try.func38, Try.ntmps38
  go_wp2
  go_quiet (fail)
  go_wp2
  refine wp_world (fun V => PAt pb A c T fin s V ∧ Below W.heap.size W V) ⟨HH.out _, below_drewN hb0 _⟩ ?_
  rintro V ⟨hV, hbV⟩
  clear c0 c1 c2 c3 c4 HH
  obtain ⟨c0, c1, c2, c3, c4⟩ := hV.cells
  obtain ⟨b, o, rfl, hlt, t0, t1, t2, t3, t4⟩ := hV.toks.at_ hi
  have q1 : (0 : Int) ≤ (s.i : Int) := by omega
  have q2 : (s.i : Int) < (T.length : Int) := by omega
  obtain ⟨t, ht⟩ : ∃ t, T[s.i] = t := ⟨_, rfl⟩
  rw [ht] at t0 t1 t2 t3 t4 HI
  clear ht
  have HBV := Lib.hid hbV
  have HCV : Hid (V.cell? ⟨pb, 0, none⟩ = some (.slice (some ⟨b, o, none⟩) T.length c) ∧ V.cell? ⟨pb, 1, none⟩ = some (.int .i64 (s.i : Int)) ∧ pb < V.heap.size ∧ V.cell? ⟨b, o + s.i * 5, none⟩ = some (.int .i64 t.kind) ∧ V.cell? ⟨b, o + s.i * 5 + 1, none⟩ = some (.int .i64 t.int) ∧ V.cell? ⟨b, o + s.i * 5 + 2, none⟩ = some (.string ⟨t.text.toArray⟩) ∧ V.cell? ⟨b, o + s.i * 5 + 3, none⟩ = some (.int .i64 ((t.at_ : Nat) : Int)) ∧ V.cell? ⟨b, o + s.i * 5 + 4, none⟩ = some (.int .i64 ((t.fin : Nat) : Int)) ∧ b < V.heap.size) := ⟨c0, c1, hV.obj.lt, t0, t1, t2, t3, t4, hlt⟩
  clear h he hV hbV hb0 c0 c1 c2 c3 c4 t0 t1 t2 t3 t4 hlt
  refine wp_region_W 11 (fun X => Below V.heap.size V X) (by kernel_rfl) ?_ (fun hS0 => ?_)
  · exact (Below.refl _ _).drew
  (refine wpAnyW_take (i := 0) (v := ?_) rfl (by kernel_rfl) (by kernel_rfl) (by kernel_rfl) (by kernel_rfl) (fun _ _ _ h => h) (Or.inl ⟨by kernel_rfl, ?_⟩) (by assumption) ?_; rotate_left; focus (intro V9 hS9; go_simp; (try (with_reducible rfl)); done))
  try simp only [Act.put, List.getElem_toArray, List.getElem_cons_zero, List.setIfInBounds_toArray, List.set_cons_succ, List.set_cons_zero]
  (refine wpAnyW_take (i := 1) (v := ?_) rfl (by kernel_rfl) (by kernel_rfl) (by kernel_rfl) (by kernel_rfl) (fun _ _ _ h => h) (Or.inl ⟨by kernel_rfl, ?_⟩) (by assumption) ?_; rotate_left; focus (intro V9 hS9; go_simp; (try (with_reducible rfl)); done))
  try simp only [Act.put, List.getElem_toArray, List.getElem_cons_succ, List.getElem_cons_zero, List.setIfInBounds_toArray, List.set_cons_succ, List.set_cons_zero]
  (refine wpAnyW_take (i := 2) (v := ?_) rfl (by kernel_rfl) (by kernel_rfl) (by kernel_rfl) (by kernel_rfl) (fun _ _ _ h => h) (Or.inl ⟨by kernel_rfl, ?_⟩) (by assumption) ?_; rotate_left; focus (intro V9 hS9; go_simp; (try (with_reducible rfl)); done))
  try simp only [Act.put, List.getElem_toArray, List.getElem_cons_succ, List.getElem_cons_zero, List.setIfInBounds_toArray, List.set_cons_succ, List.set_cons_zero]
  (refine wpAnyW_take (i := 3) (v := ?_) rfl (by kernel_rfl) (by kernel_rfl) (by kernel_rfl) (by kernel_rfl) (fun _ _ _ h => h) (Or.inl ⟨by kernel_rfl, ?_⟩) (by assumption) ?_; rotate_left; focus (intro V9 hS9; have c0 := (hS9.cell HCV.out.2.2.1).trans HCV.out.1; go_simp; (try (with_reducible rfl)); done))
  try simp only [Act.put, List.getElem_toArray, List.getElem_cons_succ, List.getElem_cons_zero, List.setIfInBounds_toArray, List.set_cons_succ, List.set_cons_zero]
  (refine wpAnyW_take (i := 4) (v := ?_) rfl (by kernel_rfl) (by kernel_rfl) (by kernel_rfl) (by kernel_rfl) (fun _ _ _ h => h) (Or.inl ⟨by kernel_rfl, ?_⟩) (by assumption) ?_; rotate_left; focus (intro V9 hS9; go_simp; (try (with_reducible rfl)); done))
  try simp only [Act.put, List.getElem_toArray, List.getElem_cons_succ, List.getElem_cons_zero, List.setIfInBounds_toArray, List.set_cons_succ, List.set_cons_zero]
  (refine wpAnyW_take (i := 5) (v := ?_) rfl (by kernel_rfl) (by kernel_rfl) (by kernel_rfl) (by kernel_rfl) (fun _ _ _ h => h) (Or.inl ⟨by kernel_rfl, ?_⟩) (by assumption) ?_; rotate_left; focus (intro V9 hS9; go_simp; (try (with_reducible rfl)); done))
  try simp only [Act.put, List.getElem_toArray, List.getElem_cons_succ, List.getElem_cons_zero, List.setIfInBounds_toArray, List.set_cons_succ, List.set_cons_zero]
  (refine wpAnyW_take (i := 6) (v := ?_) rfl (by kernel_rfl) (by kernel_rfl) (by kernel_rfl) (by kernel_rfl) (fun _ _ _ h => h) (Or.inl ⟨by kernel_rfl, ?_⟩) (by assumption) ?_; rotate_left; focus (intro V9 hS9; go_simp; (try (with_reducible rfl)); done))
  try simp only [Act.put, List.getElem_toArray, List.getElem_cons_succ, List.getElem_cons_zero, List.setIfInBounds_toArray, List.set_cons_succ, List.set_cons_zero]
  (refine wpAnyW_take (i := 7) (v := ?_) rfl (by kernel_rfl) (by kernel_rfl) (by kernel_rfl) (by kernel_rfl) (fun _ _ _ h => h) (Or.inl ⟨by kernel_rfl, ?_⟩) (by assumption) ?_; rotate_left; focus (intro V9 hS9; have c1 := (hS9.cell HCV.out.2.2.1).trans HCV.out.2.1; go_simp; (try (with_reducible rfl)); done))
  try simp only [Act.put, List.getElem_toArray, List.getElem_cons_succ, List.getElem_cons_zero, List.setIfInBounds_toArray, List.set_cons_succ, List.set_cons_zero]
  (refine wpAnyW_take (i := 8) (v := ?_) rfl (by kernel_rfl) (by kernel_rfl) (by kernel_rfl) (by kernel_rfl) (fun _ _ _ h => h) (Or.inl ⟨by kernel_rfl, ?_⟩) (by assumption) ?_; rotate_left; focus (intro V9 hS9; go_simp; (try (with_reducible rfl)); done))
  try simp only [Act.put, List.getElem_toArray, List.getElem_cons_succ, List.getElem_cons_zero, List.setIfInBounds_toArray, List.set_cons_succ, List.set_cons_zero]
  (refine wpAnyW_take (i := 9) (v := ?_) rfl (by kernel_rfl) (by kernel_rfl) (by kernel_rfl) (by kernel_rfl) (fun _ _ _ h => h) (Or.inl ⟨by kernel_rfl, ?_⟩) (by assumption) ?_; rotate_left; focus (intro V9 hS9; obtain ⟨_, _, _, t0, t1, t2, t3, t4, hlt⟩ := HCV.out; have t0 := (hS9.cell hlt).trans t0; have t1 := (hS9.cell hlt).trans t1; have t2 := (hS9.cell hlt).trans t2; have t3 := (hS9.cell hlt).trans t3; have t4 := (hS9.cell hlt).trans t4; go_simp; (try (with_reducible rfl)); done))
  try simp only [Act.put, List.getElem_toArray, List.getElem_cons_succ, List.getElem_cons_zero, List.setIfInBounds_toArray, List.set_cons_succ, List.set_cons_zero]
  refine wpAnyW_ready (rs := [10]) (by kernel_rfl) (by simp) ?_
  refine AllReadyW.cons rfl (fun K hK => ?_) AllReadyW.nil
  go_simp
  refine hK.out _ _ ((Below.refl _ _).drew.alloc (Nat.le_refl _) _) (fun _ => ?_)
  clear hK K
  try simp only [Act.put, List.getElem_toArray, List.getElem_cons_succ, List.getElem_cons_zero, List.setIfInBounds_toArray, List.set_cons_succ, List.set_cons_zero]
  refine wpAnyW_ready (rs := [11]) (by kernel_rfl) (by simp) ?_
  refine AllReadyW.consE rfl (by kernel_rfl) (fun K hK => ?_) AllReadyW.nil
  go_simp
  refine hK.out _ _ ?_
  clear hK K
  refine wpAnyW_done (by kernel_rfl) ?_ _
  go_upto_region 4 with (fail)
  refine wp_world (fun X => Blk X V.heap.size 80 (tokC t) ∧ Below W.heap.size W X) ?_ ?_
  · exact ⟨(Blk.new V _ (tokC t)), below_step HBV.out ((below_alloc _ _).drew)⟩
  rintro X ⟨hX, hbX⟩
  have x0 : X.cell? ⟨V.heap.size, 0, none⟩ = some (.int .i64 t.kind) := hX.cell 0
  have x2 : X.cell? ⟨V.heap.size, 2, none⟩ = some (.string ⟨t.text.toArray⟩) := hX.cell 2
  have HBX := Lib.hid hbX
  clear hX hbX HCV hS0 HBV
  by_cases k5 : t.kind = 5
  · rw [k5] at x0 ⊢
    have HE : Hid (bb = (t.text == w)) := by rw [HI.out, k5]; rfl
    clear HI k5
    go_wp2
    go_ret
    rw [HE.out]
    exact ⟨rfl, HBX.out⟩
  · by_cases k4 : t.kind = 4
    · rw [k4] at x0 ⊢
      have HE : Hid (bb = (t.text == w)) := by rw [HI.out, k4]; rfl
      clear HI k4 k5
      go_wp2
      go_ret
      rw [HE.out]
      exact ⟨rfl, HBX.out⟩
    · have d5 : (t.kind == 5) = false := by simpa using k5
      have d4 : (t.kind == 4) = false := by simpa using k4
      have HE : Hid (bb = false) := by rw [HI.out, d5, d4]; rfl
      clear HI k4 k5
      go_wp2
      go_ret
      rw [HE.out]
      exact ⟨rfl, HBX.out⟩
set_option maxHeartbeats 1000000 in
theorem take_any (h : PAt pb A c T fin s W) (w : List UInt8) : Calls Try.prog 21 #[.pointer (some ⟨pb, 0, none⟩), .string ⟨w.toArray⟩] W fun r w' => r = .returned (.bool (isP T w s)) ∧ PAt pb A c T fin (if isP T w s = true then nextP s else s) w' ∧ PFr pb W w' := by
  have HIS := Lib.hid (is_any h w)
  have HH := Lib.hid h
  have hlen := h.len
  cases hb : isP T w s with
  | false =>
    rw [hb] at HIS
    rw [if_neg (by simp)]
    clear hb
    go_enter Try.func21, Try.ntmps21
    go_wp2_with (go_at_call 38; refine HIS.out.mono ?_; rintro r V ⟨rfl, hb⟩)
    go_ret
    exact ⟨rfl, HH.out.keep hb, Fr.of_below hb _⟩
  | true =>
    have hlt := (isP_lt hb).2
    rw [hb] at HIS
    rw [if_pos rfl]
    clear hb
    have q9 : IntKind.i64.wrap ((s.i : Int) + 1) = ((s.i + 1 : Nat) : Int) := by rw [IntKind.wrap_i64]; omega
    go_enter Try.func21, Try.ntmps21
    go_wp2_with (go_at_call 38; refine HIS.out.mono ?_; rintro r V ⟨rfl, hb⟩; have hV := HH.out.keep hb; have c1 := hV.obj.cell 1; have f1 := hV.obj.frozen 1)
    go_ret
    obtain ⟨h1, h2⟩ := hV.setI hlt rfl
    exact ⟨rfl, h1, (Fr.of_below hb _).same h2⟩
set_option maxHeartbeats 1000000 in
theorem must_any (h : PAt pb A c T fin s W) (w : List UInt8) : Calls Try.prog 26 #[.pointer (some ⟨pb, 0, none⟩), .string ⟨w.toArray⟩] W fun r w' => r = .returned (.tuple #[]) ∧ PAt pb A c T fin (mustP T fin w s) w' ∧ PFr pb W w' := by
  have HTK := Lib.hid (take_any h w)
  have HFL : Hid (∀ V, PAt pb A c T fin s V → Calls Try.prog 11 #[.pointer (some ⟨pb, 0, none⟩), .int .i64 110] V fun r w' => r = .returned (.tuple #[]) ∧ PAt pb A c T fin (failP T fin 110 s) w' ∧ PFr pb V w') := fun V hV => pfail_any hV 110
  cases hb : isP T w s with
  | false =>
    have HE := Lib.hid (show mustP T fin w s = failP T fin 110 s by unfold mustP; rw [hb]; rfl)
    rw [hb, if_neg (by simp)] at HTK
    clear hb
    go_enter Try.func26, Try.ntmps26
    go_wp2_with (first | (go_at_call 21; refine HTK.out.mono ?_; rintro r V ⟨rfl, hV, hF⟩) | (go_at_call 11; refine (HFL.out _ hV).mono ?_; rintro r V2 ⟨rfl, hV2, hF2⟩))
    go_end0
    rw [HE.out]
    exact ⟨rfl, hV2, hF.same hF2⟩
  | true =>
    have HE := Lib.hid (show mustP T fin w s = nextP s by unfold mustP; rw [hb]; rfl)
    rw [hb, if_pos rfl] at HTK
    clear hb
    go_enter Try.func26, Try.ntmps26
    go_wp2_with (go_at_call 21; refine HTK.out.mono ?_; rintro r V ⟨rfl, hV, hF⟩)
    go_end0
    rw [HE.out]
    exact ⟨rfl, hV, hF⟩
set_option maxHeartbeats 1000000 in
theorem kind_any (h : PAt pb A c T fin s W) (k : Int) : Calls Try.prog 50 #[.pointer (some ⟨pb, 0, none⟩), .int .i64 k] W fun r w' => r = .returned (.bool (kindP T k s)) ∧ Below W.heap.size W w' := by
  obtain ⟨c0, c1, c2, c3, c4⟩ := h.cells
  have hb0 := Below.refl W.heap.size W
  have hlen := h.len
  by_cases he : s.e = 0
  rotate_left
  · have HI := Lib.hid (show kindP T k s = false by unfold kindP; rw [show (s.e == 0) = false by simpa using he]; rfl)
    have hd : (s.e == 0) = false := by simpa using he
    go_enter Try.func50, Try.ntmps50
    go_wp2
    go_quiet (fail)
    go_wp2
    go_ret
    rw [HI.out]
    exact ⟨rfl, below_drewN hb0 _⟩
  rw [he] at c3
  by_cases hi : s.i < T.length
  rotate_left
  · have HI := Lib.hid (show kindP T k s = false by unfold kindP; rw [List.getElem?_eq_none (by omega)]; simp)
    have hd : decide (s.i < T.length) = false := by simp; omega
    clear he h
    go_enter Try.func50, Try.ntmps50
    go_wp2
    go_quiet (fail)
    go_wp2
    go_ret
    rw [HI.out]
    exact ⟨rfl, below_drewN hb0 _⟩
  have HI := Lib.hid (show kindP T k s = ((T[s.i]).kind == k) by unfold kindP; rw [List.getElem?_eq_getElem hi, he]; rfl)
  have hd : decide (s.i < T.length) = true := by simp; omega
  obtain ⟨b, o, rfl, hlt, t0, t1, t2, t3, t4⟩ := h.toks.at_ hi
  have q1 : (0 : Int) ≤ (s.i : Int) := by omega
  have q2 : (s.i : Int) < (T.length : Int) := by omega
  obtain ⟨t, ht⟩ : ∃ t, T[s.i] = t := ⟨_, rfl⟩
  rw [ht] at t0 HI
  clear ht t1 t2 t3 t4 h he
  go_enter Try.func50, Try.ntmps50
  go_wp2
  go_quiet (fail)
  go_wp2
  go_ret
  rw [HI.out]
  exact ⟨rfl, below_drewN hb0 _⟩

/-- Words in memory. -/
def RdS (W : World) (b : Nat) (l : List (List UInt8)) : Prop := ∀ j, (h : j < l.length) → W.cell? ⟨b, j, none⟩ = some (.string ⟨(l[j]).toArray⟩)
theorem opP_step {l : List (List UInt8)} {i : Nat} (h : i < l.length) : opP T (l.drop i) s = if isP T l[i] s = true then some l[i] else opP T (l.drop (i + 1)) s := by
  unfold opP
  rw [List.drop_eq_getElem_cons h, List.find?_cons]
  cases isP T l[i] s <;> rfl
set_option maxHeartbeats 1000000 in
theorem op_any (h : PAt pb A c T fin s W) {lb cl n : Nat} (l : List (List UInt8)) (hl : RdS W lb l) (hpb : lb ≠ pb) (hn : l.length = n) (h100 : n ≤ 100) : Calls Try.prog 69 #[.pointer (some ⟨pb, 0, none⟩), .slice (some ⟨lb, 0, none⟩) n cl] W fun r w' => r = .returned (.string ⟨((opP T l s).getD []).toArray⟩) ∧ PAt pb A c T fin (opS T l s) w' ∧ PFr pb W w' := by
  have HH := Lib.hid h
  have HL : Hid (∀ V, PFr pb W V → RdS V lb l) := fun V hV j hj => (World.cell?_of_block (hV.block lb (World.block_lt_of_cell? W _ (hl j hj)) hpb)).trans (hl j hj)
  have HN := Lib.hid hn
  have HTK : Hid (∀ V w, PAt pb A c T fin s V → Calls Try.prog 21 #[.pointer (some ⟨pb, 0, none⟩), .string ⟨w.toArray⟩] V fun r w' => r = .returned (.bool (isP T w s)) ∧ PAt pb A c T fin (if isP T w s = true then nextP s else s) w' ∧ PFr pb V w') := fun V w hV => take_any hV w
  clear h hl hn
  go_enter Try.func69, Try.ntmps69
  go_wp2
  go_loopw [5] (fun i wx => ∃ k : Nat, i = .int .i64 (k : Int) ∧ k ≤ n ∧ PAt pb A c T fin s wx ∧ PFr pb W wx ∧ opP T l s = opP T (l.drop k) s) (fun i _ => n - (intOf i).toNat)
  case atStart => exact ⟨0, rfl, Nat.zero_le _, HH.out, Fr.refl _ _, rfl⟩
  case round =>
    obtain ⟨k, rfl, hk, hp, hf, he⟩ := hrel
    by_cases hlt : k < n
    · have hd : decide (k < n) = true := by simpa using hlt
      have hkl : k < l.length := by rw [HN.out]; exact hlt
      have g0 := HL.out wr hf k hkl
      have hst := opP_step (T := T) (s := s) hkl
      have HC := Lib.hid (HTK.out wr l[k] hp)
      have HE := Lib.hid (he.trans hst)
      obtain ⟨w, hw⟩ : ∃ w, l[k] = w := ⟨_, rfl⟩
      rw [hw] at g0 HC HE
      have HG : Hid (∀ V, PFr pb wr V → V.cell? ⟨lb, k, none⟩ = some (.string ⟨w.toArray⟩)) := fun V hV => by rw [← hw]; exact HL.out V (hf.same hV) k hkl
      have q1 : (0 : Int) ≤ (k : Int) := by omega
      have q2 : (k : Int) < (n : Int) := by omega
      have q9 : IntKind.i64.wrap ((k : Int) + 1) = ((k + 1 : Nat) : Int) := by rw [IntKind.wrap_i64]; omega
      have HF := Lib.hid hf
      clear hst he hw hf hp hkl
      cases hb : isP T w s with
      | true =>
        rw [hb, if_pos rfl] at HC
        rw [hb, if_pos rfl] at HE
        clear hb
        go_wp2_with (go_at_call 21; refine HC.out.mono ?_; rintro r V ⟨rfl, hV, hF2⟩; have g0 := HG.out V hF2)
        go_ret
        rw [opS_some HE.out, HE.out]
        exact ⟨rfl, hV, HF.out.same hF2⟩
      | false =>
        rw [hb, if_neg (by simp)] at HC
        rw [hb, if_neg (by simp)] at HE
        clear hb
        go_wp2_with (go_at_call 21; refine HC.out.mono ?_; rintro r V ⟨rfl, hV, hF2⟩)
        go_roundw
        case rel => exact ⟨k + 1, by go_num, by omega, hV, HF.out.same hF2, HE.out⟩
        case measure => simp [intOf]; omega
    · obtain rfl : k = n := by omega
      have hd : decide (k < k) = false := by simp
      have HE : Hid (opP T l s = none) := by rw [he, ← HN.out, List.drop_length]; rfl
      clear he
      go_wp2
      go_ret
      rw [opS_none HE.out, HE.out]
      exact ⟨rfl, hp, hf⟩
end
end
end Go.Proofs.Ythhindnjnijglaa
