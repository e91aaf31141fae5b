/- Words for the statements of layer 17: Take of every number, New of terms that all find room. -/
import Derived.Test.YthmlpiiajlfmcaaMLive
namespace Go.Proofs.Ythmlpiiajlfmcaa
open Go.RowKit
set_option linter.unusedVariables false

/-- The term without anything. -/
def zt : TV := .mk 0 0 [] []
def TV.aggOf (t : TV) (A : Option Addr) (c : Nat) : Value := .agg #[.int .i64 t.kind, .int .i64 t.int, .string ⟨t.name.toArray⟩, .slice A t.items.length c]
def takeT (l : List TV) (x : Int) : TV := if 0 ≤ x ∧ x < l.length then l.getD x.toNat zt else zt
def takeE (n : Nat) (x : Int) : Nat := if 0 ≤ x ∧ x < n then 0 else 2
def takeL {α : Type} (l : List α) (x : Int) : List α := if 0 ≤ x ∧ x < l.length then l.eraseIdx x.toNat else l
theorem takeL_map {α β : Type} (f : α → β) (l : List α) (x : Int) : (takeL l x).map f = takeL (l.map f) x := by
  unfold takeL
  rw [List.length_map]
  split
  · exact map_erase f l _
  · rfl
theorem takeL_sub {α : Type} (l : List α) (x : Int) : (takeL l x).Sublist l := by
  unfold takeL
  split
  · exact List.eraseIdx_sublist l _
  · exact List.Sublist.refl l

def BTakeEnds (w0 : World) (pb : Nat) (A : Option Addr) (cap : Nat) (es : List (TE w0)) (x : Int) (r : Ending) (w' : World) : Prop :=
  ∃ t A' c', r = .returned (.tuple #[TV.aggOf t A' c', .int .i64 (takeE es.length x : Nat)]) ∧ t = takeT (es.map (·.t)) x ∧ RdM w0 A' c' t.items ∧ BoxAt w0 pb A cap (takeL es x) w'
theorem btake_any {w0 W : World} {pb : Nat} {A : Option Addr} {cap : Nat} {es : List (TE w0)} (h : BoxAt w0 pb A cap es W) (x : Int) :
    Calls Try.prog 15 #[.pointer (some ⟨pb, 0, none⟩), .int .i64 x] W (BTakeEnds w0 pb A cap es x) := by
  by_cases hx : 0 ≤ x ∧ x < es.length
  · obtain ⟨i, rfl⟩ : ∃ i : Nat, x = (i : Int) := ⟨x.toNat, by omega⟩
    have hi : i < es.length := by omega
    refine (btake_in h i hi).mono fun r w' ⟨hr, hb, _⟩ => ⟨es[i].t, es[i].A, es[i].c, ?_, ?_, es[i].ok, ?_⟩
    · rw [hr, takeE, if_pos hx]; rfl
    · rw [takeT, List.length_map, if_pos hx]
      simp [List.getD_eq_getElem?_getD, List.getElem?_eq_getElem hi]
    · rw [takeL, if_pos hx]; exact hb
  · refine (btake_out h x (by omega)).mono fun r w' ⟨hr, hb⟩ => ⟨zt, none, 0, ?_, ?_, ⟨Nat.le_refl _, by omega, .inl rfl⟩, ?_⟩
    · rw [hr, takeE, if_neg hx]; rfl
    · rw [takeT, List.length_map, if_neg hx]
    · rw [takeL, if_neg hx]; exact h.keep hb

theorem newT_ok : ∀ (l acc : List TV), (∀ t ∈ l, checkP [t] = 0) → acc.length + l.length ≤ 1000 → TV.partsL acc + TV.partsL l ≤ 20000 → newT acc l = (0, acc ++ l)
  | [], acc, _, _, _ => by simp [newT]
  | t :: r, acc, h, h1, h2 => by
    simp only [List.length_cons, TV.partsL] at h1 h2
    have hp : putT acc t = 0 := by
      unfold putT
      rw [if_neg (by simp [h t List.mem_cons_self]), if_neg (by omega)]
    simp only [newT, hp, if_true]
    rw [newT_ok r (acc ++ [t]) (fun t ht => h t (List.mem_cons_of_mem _ ht)) (by simp; omega) (by rw [partsL_append]; simp [TV.partsL]; omega)]
    simp
theorem ti_check (n : Int) (h1 : -576460752303423488 ≤ n) (h2 : n ≤ 576460752303423487) : checkP [ti n] = 0 := by
  unfold checkP
  rw [if_pos (by simp [ti, TV.partsL, TV.parts]), if_pos (by simp [ti, TV.isL, TV.isT, headB, h1, h2])]
theorem own_keep {W W' : World} {base e size n : Nat} {v : Value} {xs : List Value} (h : W.ownsRow base e size v n xs) (hb : Below W.heap.size W W') : W'.ownsRow base e size v n xs :=
  h.kept (grown_of_below hb none) (by cases v.ownBlock <;> simp)

def tiE (w : World) (i : Nat) : TE w := ⟨ti i, none, 0, ⟨Nat.le_refl _, by omega, .inl rfl⟩⟩
def tis (w : World) (k : Nat) : List (TE w) := (List.range k).map (tiE w)
theorem tis_succ (w : World) (k : Nat) : tis w (k + 1) = tis w k ++ [tiE w k] := by simp [tis, List.range_succ]
theorem tis_len (w : World) (k : Nat) : (tis w k).length = k := by simp [tis]
theorem tis_parts (w : World) : ∀ k, TV.partsL ((tis w k).map (·.t)) = k
  | 0 => rfl
  | k + 1 => by rw [tis_succ, List.map_append, partsL_append, tis_parts w k]; simp [tiE, ti, TV.partsL, TV.parts]
theorem tis_inc (w : World) (k : Nat) : ((tis w k).map fun e => e.t.int).Pairwise (· < ·) := by
  induction k with
  | zero => simp [tis]
  | succ k ih =>
    rw [tis_succ, List.map_append, List.pairwise_append]
    refine ⟨ih, by simp, fun a ha b hb => ?_⟩
    simp only [List.map_cons, List.map_nil, List.mem_cons, List.mem_nil_iff, or_false] at hb
    subst hb
    obtain ⟨e, he, rfl⟩ := List.mem_map.1 ha
    obtain ⟨i, hi, rfl⟩ := List.mem_map.1 he
    have := List.mem_range.1 hi
    show (i : Int) < (k : Int)
    omega
theorem tis_new (w : World) (k : Nat) (hk : k ≤ 100) : newT [] ((tis w k).map (·.t)) = (0, (tis w k).map (·.t)) := by
  have := newT_ok ((tis w k).map (·.t)) [] (fun t ht => by
    obtain ⟨e, he, rfl⟩ := List.mem_map.1 ht
    obtain ⟨i, hi, rfl⟩ := List.mem_map.1 he
    have := List.mem_range.1 hi
    exact ti_check _ (by omega) (by omega)) (by simp [tis_len]; omega) (by rw [tis_parts]; simp [TV.partsL]; omega)
  simpa using this
theorem tis_named (w : World) (k : Nat) : TV.namedL ((tis w k).map (·.t)) := by
  induction k with
  | zero => simp [tis, TV.namedL]
  | succ k ih =>
    rw [tis_succ, List.map_append]
    generalize (tis w k).map (·.t) = l at ih ⊢
    induction l with
    | nil => simp [TV.namedL, tiE, ti_named]
    | cons t r ih2 =>
      simp only [List.cons_append, TV.namedL] at ih ⊢
      exact ⟨ih.1, ih2 ih.2⟩
/-- A term's cells in a block of their own, as append asks for them. -/
theorem one_news {w0 : World} (W : World) (e : TE w0) : Cs (W.alloc (.cells e.cells.toArray 35)) (some ⟨W.heap.size, 0, none⟩) e.cells :=
  .inr ⟨_, rfl, fun j u hu => by rw [Addr.add_lit, Nat.zero_add, (Blk.new W 35 e.cells.toArray).cell]; simpa using hu⟩
theorem own_grow {w W W' : World} {base e size n : Nat} {v : Value} {xs : List Value} (h : W.ownsRow base e size v n xs) (hb : Below base w W) (hg : W.grownBy W' v.ownBlock) (hs : base ≤ W.heap.size) : Below base w W' :=
  hb.grown hg hs (fun k hk => (World.ownsRow.lt h k hk).1)
theorem own_form {W : World} {base e n : Nat} {v : Value} {xs : List Value} (h : W.ownsRow base e 4 v n xs) : ∃ A cap, v = .slice A n cap := by
  rcases h.2 with ⟨hv, hz⟩ | ⟨g, cap, cur, hv, _⟩
  · have h1 := h.1
    rw [hz] at h1
    simp at h1
    have h2 : n = 0 := by omega
    exact ⟨none, 0, by rw [hv, h2]⟩
  · exact ⟨_, _, hv⟩
end Go.Proofs.Ythmlpiiajlfmcaa
