/- Layer 13, plain laws: what fits a pattern under a way of binding; rows as a tuple. No program is named here. -/
import Derived.Test.YtmpknhdfglbocaaGreatPaU
namespace Go.Proofs.YtmpknhdfglbocaaGreat
open Go.RowKit
set_option linter.unusedVariables false

mutual
/-- Does a term fit a pattern, where the names are bound so? -/
def FitP (f : List UInt8 → Option TV) : ND → TV → Prop
  | .mk k n s a kids _ _, t =>
    if k = 1 then t.kind = 1 ∧ t.int = n
    else if k = 2 then t.kind = 2 ∧ t.name = s
    else if k = 5 then t.kind = 7
    else if k = 10 then t.kind = 1 ∧ t.int = negK kids
    else if k = 3 then s = [95] ∨ f s = some t
    else if k = 4 then t.kind = 6 ∧ t.items.length = kids.length ∧ FitL f kids t.items
    else if k = 6 then t.kind = 8 ∧ t.items.length = kids.length ∧ FitL f kids t.items
    else False
def FitL (f : List UInt8 → Option TV) : List ND → List TV → Prop
  | p :: ps, t :: ts => FitP f p t ∧ FitL f ps ts
  | _, _ => True
end
mutual
/-- A name that a pattern binds. -/
def VarP (s : List UInt8) : ND → Prop
  | .mk k _ nm _ kids _ _ => if k = 3 then nm = s ∧ s ≠ [95] else if k = 4 then VarL s kids else if k = 6 then VarL s kids else False
def VarL (s : List UInt8) : List ND → Prop
  | [] => False
  | p :: ps => VarP s p ∨ VarL s ps
end
def ExtB (E : List BV) (f : List UInt8 → Option TV) : Prop := ∀ s v, getG s E = some v → f s = some v
theorem ExtB.refl (E : List BV) : ExtB E (fun s => getG s E) := fun _ _ h => h
theorem ExtB.trans {E F : List BV} {f : List UInt8 → Option TV} (h : ExtB E (fun s => getG s F)) (k : ExtB F f) : ExtB E f := fun s v hs => k s v (h s v hs)
theorem var_ext {s : List UInt8} {t : TV} {E : List BV} (h : (varP s t E).2 = true) : ExtB E (fun x => getG x (varP s t E).1) ∧ (s = [95] ∨ getG s (varP s t E).1 = some t) := by
  unfold varP at h ⊢
  by_cases hs : s = [95]
  · simp only [if_pos hs]
    exact ⟨ExtB.refl E, .inl hs⟩
  · rw [if_neg hs] at h
    simp only [if_neg hs]
    cases hg : getG s E with
    | some v =>
      rw [hg] at h
      simp only [beq_iff_eq, TV.cmp_zero] at h
      subst h
      exact ⟨ExtB.refl E, .inr hg⟩
    | none =>
      refine ⟨fun x v hx => ?_, .inr (by rw [getG_snoc, if_pos rfl])⟩
      simp only
      rw [getG_snoc]
      split
      · rename_i he
        simp only at he
        rw [← he, hg] at hx
        cases hx
      · exact hx
theorem var_of {s : List UInt8} {t : TV} {E : List BV} {f : List UInt8 → Option TV} (hE : ExtB E f) (h : s = [95] ∨ f s = some t) : (varP s t E).2 = true ∧ ExtB (varP s t E).1 f := by
  unfold varP
  by_cases hs : s = [95]
  · simp only [if_pos hs]
    exact ⟨trivial, hE⟩
  · simp only [if_neg hs]
    have hf := h.resolve_left hs
    cases hg : getG s E with
    | some v =>
      have := hE s v hg
      rw [hf] at this
      cases this
      exact ⟨by simpa using (TV.cmp_zero t t).2 rfl, hE⟩
    | none =>
      refine ⟨rfl, fun x v hx => ?_⟩
      rw [getG_snoc] at hx
      split at hx
      · rename_i he
        simp only at he hx
        cases hx
        rw [← he]
        exact hf
      · exact hE x v hx
theorem var_names {s : List UInt8} {t : TV} {E : List BV} {x : List UInt8} {v : TV} (h : getG x (varP s t E).1 = some v) : getG x E = some v ∨ (s = x ∧ x ≠ [95]) := by
  unfold varP at h
  by_cases hs : s = [95]
  · rw [if_pos hs] at h; exact .inl h
  · rw [if_neg hs] at h
    cases hg : getG s E with
    | some w => rw [hg] at h; exact .inl h
    | none =>
      rw [hg] at h
      simp only at h
      rw [getG_snoc] at h
      split at h
      · rename_i he
        exact .inr ⟨he, by rw [← he]; exact hs⟩
      · exact .inl h
mutual
/-- What has fitted fits under what was bound by it. -/
theorem fit_ext : ∀ (p : ND) (t : TV) (E : List BV), (matchP p t E).2 = true → ExtB E (fun s => getG s (matchP p t E).1) ∧ ∀ f, ExtB (matchP p t E).1 f → FitP f p t
  | .mk k n s a kids c b, t, E, h => by
    simp only [matchP, FitP] at h ⊢
    by_cases h1 : k = 1
    · simp only [h1, if_true, Bool.and_eq_true, beq_iff_eq] at h ⊢; exact ⟨ExtB.refl E, fun _ _ => h⟩
    simp only [if_neg h1] at h ⊢
    by_cases h2 : k = 2
    · simp only [h2, if_true, Bool.and_eq_true, beq_iff_eq] at h ⊢; exact ⟨ExtB.refl E, fun _ _ => h⟩
    simp only [if_neg h2] at h ⊢
    by_cases h5 : k = 5
    · simp only [h5, if_true, beq_iff_eq] at h ⊢; exact ⟨ExtB.refl E, fun _ _ => h⟩
    simp only [if_neg h5] at h ⊢
    by_cases h10 : k = 10
    · simp only [h10, if_true, Bool.and_eq_true, beq_iff_eq] at h ⊢; exact ⟨ExtB.refl E, fun _ _ => h⟩
    simp only [if_neg h10] at h ⊢
    by_cases h3 : k = 3
    · simp only [h3, if_true] at h ⊢
      obtain ⟨q1, q2⟩ := var_ext h
      exact ⟨q1, fun f hf => q2.imp id fun q => hf _ _ q⟩
    simp only [if_neg h3] at h ⊢
    by_cases h4 : k = 4
    · simp only [h4, if_true] at h ⊢
      by_cases hc : t.kind = 6 ∧ t.items.length = kids.length
      · simp only [if_pos hc] at h ⊢
        obtain ⟨q1, q2⟩ := fitL_ext kids t.items E hc.2.symm h
        exact ⟨q1, fun f hf => ⟨hc.1, hc.2, q2 f hf⟩⟩
      · rw [if_neg hc] at h; cases h
    simp only [if_neg h4] at h ⊢
    by_cases h6 : k = 6
    · simp only [h6, if_true] at h ⊢
      by_cases hc : t.kind = 8 ∧ t.items.length = kids.length
      · simp only [if_pos hc] at h ⊢
        obtain ⟨q1, q2⟩ := fitL_ext kids t.items E hc.2.symm h
        exact ⟨q1, fun f hf => ⟨hc.1, hc.2, q2 f hf⟩⟩
      · rw [if_neg hc] at h; cases h
    simp only [if_neg h6] at h
    cases h
theorem fitL_ext : ∀ (ps : List ND) (ts : List TV) (E : List BV), ps.length = ts.length → (matchL ps ts E).2 = true → ExtB E (fun s => getG s (matchL ps ts E).1) ∧ ∀ f, ExtB (matchL ps ts E).1 f → FitL f ps ts
  | [], ts, E, _, h => by simp only [matchL, FitL]; exact ⟨ExtB.refl E, fun _ _ => trivial⟩
  | p :: ps, [], E, hl, h => by simp at hl
  | p :: ps, t :: ts, E, hl, h => by
    simp only [matchL, FitL] at h ⊢
    cases h1 : (matchP p t E).2 with
    | false => rw [h1, if_neg (by simp), h1] at h; cases h
    | true =>
      rw [h1, if_pos rfl] at h
      rw [if_pos rfl]
      obtain ⟨q1, q2⟩ := fit_ext p t E h1
      obtain ⟨r1, r2⟩ := fitL_ext ps ts _ (by simpa using hl) h
      exact ⟨q1.trans r1, fun f hf => ⟨q2 f (r1.trans hf), r2 f hf⟩⟩
end
mutual
/-- What fits is found to fit, with no more bound than that. -/
theorem fit_of : ∀ (p : ND) (t : TV) (E : List BV) (f : List UInt8 → Option TV), ExtB E f → FitP f p t → (matchP p t E).2 = true ∧ ExtB (matchP p t E).1 f
  | .mk k n s a kids c b, t, E, f, hE, h => by
    simp only [matchP, FitP] at h ⊢
    by_cases h1 : k = 1
    · simp only [h1, if_true, Bool.and_eq_true, beq_iff_eq] at h ⊢; exact ⟨h, hE⟩
    simp only [if_neg h1] at h ⊢
    by_cases h2 : k = 2
    · simp only [h2, if_true, Bool.and_eq_true, beq_iff_eq] at h ⊢; exact ⟨h, hE⟩
    simp only [if_neg h2] at h ⊢
    by_cases h5 : k = 5
    · simp only [h5, if_true, beq_iff_eq] at h ⊢; exact ⟨h, hE⟩
    simp only [if_neg h5] at h ⊢
    by_cases h10 : k = 10
    · simp only [h10, if_true, Bool.and_eq_true, beq_iff_eq] at h ⊢; exact ⟨h, hE⟩
    simp only [if_neg h10] at h ⊢
    by_cases h3 : k = 3
    · simp only [h3, if_true] at h ⊢
      exact var_of hE h
    simp only [if_neg h3] at h ⊢
    by_cases h4 : k = 4
    · simp only [h4, if_true] at h ⊢
      rw [if_pos ⟨h.1, h.2.1⟩]
      exact fitL_of kids t.items E f hE h.2.2
    simp only [if_neg h4] at h ⊢
    by_cases h6 : k = 6
    · simp only [h6, if_true] at h ⊢
      rw [if_pos ⟨h.1, h.2.1⟩]
      exact fitL_of kids t.items E f hE h.2.2
    simp only [if_neg h6] at h
theorem fitL_of : ∀ (ps : List ND) (ts : List TV) (E : List BV) (f : List UInt8 → Option TV), ExtB E f → FitL f ps ts → (matchL ps ts E).2 = true ∧ ExtB (matchL ps ts E).1 f
  | [], ts, E, f, hE, h => by simp only [matchL]; exact ⟨trivial, hE⟩
  | p :: ps, [], E, f, hE, h => by simp only [matchL]; exact ⟨trivial, hE⟩
  | p :: ps, t :: ts, E, f, hE, h => by
    simp only [matchL, FitL] at h ⊢
    obtain ⟨q1, q2⟩ := fit_of p t E f hE h.1
    rw [if_pos q1]
    exact fitL_of ps ts _ f q2 h.2
end
mutual
/-- A name that is bound more is one of the pattern's. -/
theorem fit_names : ∀ (p : ND) (t : TV) (E : List BV) (x : List UInt8) (v : TV), getG x (matchP p t E).1 = some v → getG x E = some v ∨ VarP x p
  | .mk k n s a kids c b, t, E, x, v, h => by
    simp only [matchP, VarP] at h ⊢
    by_cases h1 : k = 1
    · simp only [h1, if_true] at h; exact .inl h
    simp only [if_neg h1] at h
    by_cases h2 : k = 2
    · simp only [h2, if_true] at h; exact .inl h
    simp only [if_neg h2] at h
    by_cases h5 : k = 5
    · simp only [h5, if_true] at h; exact .inl h
    simp only [if_neg h5] at h
    by_cases h10 : k = 10
    · simp only [h10, if_true] at h; exact .inl h
    simp only [if_neg h10] at h
    by_cases h3 : k = 3
    · simp only [h3, if_true] at h ⊢
      exact var_names h
    simp only [if_neg h3] at h ⊢
    by_cases h4 : k = 4
    · simp only [h4, if_true] at h ⊢
      split at h
      · exact fitL_names kids t.items E x v h
      · exact .inl h
    simp only [if_neg h4] at h ⊢
    by_cases h6 : k = 6
    · simp only [h6, if_true] at h ⊢
      split at h
      · exact fitL_names kids t.items E x v h
      · exact .inl h
    simp only [if_neg h6] at h
    exact .inl h
theorem fitL_names : ∀ (ps : List ND) (ts : List TV) (E : List BV) (x : List UInt8) (v : TV), getG x (matchL ps ts E).1 = some v → getG x E = some v ∨ VarL x ps
  | [], ts, E, x, v, h => by simp only [matchL] at h; exact .inl h
  | p :: ps, [], E, x, v, h => by simp only [matchL] at h; exact .inl h
  | p :: ps, t :: ts, E, x, v, h => by
    simp only [matchL, VarL] at h ⊢
    split at h
    · rcases fitL_names ps ts _ x v h with h | h
      · exact (fit_names p t E x v h).imp id .inl
      · exact .inr (.inr h)
    · exact (fit_names p t E x v h).imp id .inl
end
/-- One pattern, one term. -/
theorem allP_one (p : ND) (t : TV) (E : List BV) : allP [p] [t] E = if patB p = true then (if (matchP p t E).2 then some (risG (matchP p t E).1) else none) else none := by
  have hm : matchL [p] [t] E = ((matchP p t E).1, (matchP p t E).2) := by
    simp only [matchL]
    cases h : (matchP p t E).2 with
    | true => rw [if_pos rfl]
    | false => rw [if_neg (by simp), ← h]
  unfold allP
  simp only [List.length_cons, List.length_nil, true_and, patL, Bool.and_true, hm]
/-- Matched again with what was bound: it is as it was. -/
theorem again_all {p : ND} {t : TV} {R : List BV} (h : allP [p] [t] [] = some R) : allP [p] [t] R = some R := by
  rw [allP_one] at h ⊢
  split at h
  · rename_i hp
    rw [if_pos hp]
    split at h
    · rename_i hm
      cases h
      obtain ⟨_, q2⟩ := fit_ext p t [] hm
      have hf := q2 (fun s => getG s (matchP p t []).1) (ExtB.refl _)
      have hE : ExtB (risG (matchP p t []).1) (fun s => getG s (matchP p t []).1) := fun s v hs => by rw [getG_risG] at hs; exact hs
      obtain ⟨r1, r2⟩ := fit_of p t _ _ hE hf
      rw [if_pos r1]
      congr 1
      refine risG_ext fun s => ?_
      obtain ⟨e1, _⟩ := fit_ext p t _ r1
      cases hg : getG s (matchP p t []).1 with
      | some v => exact e1 s v (by rw [getG_risG]; exact hg)
      | none =>
        cases hg2 : getG s (matchP p t (risG (matchP p t []).1)).1 with
        | none => rfl
        | some w => have h9 : getG s (matchP p t []).1 = some w := r2 s w hg2; rw [hg] at h9; cases h9
    · cases h
  · cases h
end Go.Proofs.YtmpknhdfglbocaaGreat
