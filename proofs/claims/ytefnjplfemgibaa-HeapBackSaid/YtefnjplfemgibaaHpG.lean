/- Heap (layer 9): the plain reader; rows of one-cell values in memory. -/
import Derived.Test.YtefnjplfemgibaaHpA
import Derived.Test.YtefnjplfemgibaaArB
namespace Go.Proofs.Ytefnjplfemgibaa
open Go.RowKit
set_option linter.unusedVariables false

/-! ### the plain reader -/
def leafP (nm : List (List UInt8)) (n tag : Nat) : Option TV :=
  if tag = 0 then
    (if (n : Int) ≤ 576460752303423487 then some (tI n) else if 1729382256910270464 ≤ (n : Int) then some (tI ((n : Int) - 2305843009213693952)) else none)
  else if tag = 1 then (match nm[n]? with
    | none => none
    | some s => if s ≠ [] ∧ s.length ≤ 255 then some (tA s) else none)
  else if tag = 2 then (if n ≤ 576460752303423487 then some (.mk 5 n [] []) else none)
  else if tag = 3 then (if n ≤ 576460752303423487 then some (.mk 3 n [] []) else none)
  else if n = 0 then some tN else none
def cellP (ws : List Nat) (a tag : Nat) : Option (Int × Int × List Nat) :=
  if tag = 5 then (if (ws.drop a).length < 2 then none else some (8, 0, (ws.drop a).take 2))
  else if tag = 6 then (match ws.drop a with
    | [] => none
    | m :: r => if r.length < m then none else some (6, 0, r.take m))
  else (match ws.drop a with
    | i :: m :: r => if 576460752303423487 < i then none else if r.length < m then none else some (4, (i : Int), r.take m)
    | _ => none)
def rdL (f : Nat → Nat → Except Nat (TV × Nat)) : List Nat → Nat → Except Nat (List TV × Nat)
  | [], left => .ok ([], left)
  | y :: r, left => match f y left with
    | .error e => .error e
    | .ok (t, l1) => match rdL f r l1 with
      | .error e => .error e
      | .ok (ts, l2) => .ok (t :: ts, l2)
/-- The term of a word, whose cell must begin ahead of a place; left: how many parts may still come. -/
def rdT (ws : List Nat) (nm : List (List UInt8)) (ahead x left : Nat) : Except Nat (TV × Nat) :=
  if left = 0 then .error 6
  else if x % 8 < 5 then (match leafP nm (x / 8) (x % 8) with
    | none => .error 90
    | some t => .ok (t, left - 1))
  else if h : x / 8 < ahead then (match cellP ws (x / 8) (x % 8) with
    | none => .error 90
    | some (k, i, items) => match rdL (fun y l => rdT ws nm (x / 8) y l) items (left - 1) with
      | .error e => .error e
      | .ok (ts, l1) => .ok (.mk k i [] ts, l1))
  else .error 90
termination_by ahead
/-- Read: the code, and the terms. -/
def readP (ws : List Nat) (nm : List (List UInt8)) (rs : List Nat) : Except Nat (List TV) :=
  if 65536 < ws.length ∨ 65536 < nm.length ∨ 65536 < rs.length then .error 90
  else match rdL (fun y l => rdT ws nm ws.length y l) rs 4096 with
    | .error e => .error e
    | .ok (ts, _) => .ok ts
theorem rdL_append (f : Nat → Nat → Except Nat (TV × Nat)) (l m : List Nat) (left : Nat) : rdL f (l ++ m) left = match rdL f l left with
    | .error e => .error e
    | .ok (ts, l1) => match rdL f m l1 with
      | .error e => .error e
      | .ok (ts', l2) => .ok (ts ++ ts', l2) := by
  induction l generalizing left with
  | nil => simp only [List.nil_append, rdL]; cases rdL f m left <;> rfl
  | cons y r ih =>
    simp only [List.cons_append, rdL]
    cases f y left with
    | error e => rfl
    | ok q =>
      obtain ⟨t, l1⟩ := q
      simp only
      rw [ih]
      cases rdL f r l1 with
      | error e => rfl
      | ok q2 =>
        obtain ⟨ts, l2⟩ := q2
        simp only
        cases rdL f m l2 with
        | error e => rfl
        | ok q3 => rfl
theorem rdL_len {f : Nat → Nat → Except Nat (TV × Nat)} {l : List Nat} {left l1 : Nat} {ts : List TV} (h : rdL f l left = .ok (ts, l1)) : ts.length = l.length := by
  induction l generalizing left ts l1 with
  | nil => simp only [rdL, Except.ok.injEq, Prod.mk.injEq] at h; rw [← h.1]; rfl
  | cons y r ih =>
    simp only [rdL] at h
    cases hf : f y left with
    | error e => rw [hf] at h; cases h
    | ok q =>
      obtain ⟨t, k1⟩ := q
      rw [hf] at h
      simp only at h
      cases hr : rdL f r k1 with
      | error e => rw [hr] at h; cases h
      | ok q2 =>
        obtain ⟨ts2, k2⟩ := q2
        rw [hr] at h
        simp only [Except.ok.injEq, Prod.mk.injEq] at h
        rw [← h.1]
        simp [ih hr]
theorem cellP_sub {ws : List Nat} {a tag : Nat} {k i : Int} {items : List Nat} (h : cellP ws a tag = some (k, i, items)) : items.length ≤ ws.length ∧ ∀ y ∈ items, y ∈ ws := by
  have hd : ∀ (r : List Nat) (j : Nat), (∀ y ∈ r, y ∈ ws) → r.length ≤ ws.length → (r.take j).length ≤ ws.length ∧ ∀ y ∈ r.take j, y ∈ ws := fun r j h1 h2 => ⟨by rw [List.length_take]; omega, fun y hy => h1 y (List.mem_of_mem_take hy)⟩
  have hb : ∀ y ∈ ws.drop a, y ∈ ws := fun y hy => List.mem_of_mem_drop hy
  have hl : (ws.drop a).length ≤ ws.length := by rw [List.length_drop]; omega
  unfold cellP at h
  split at h
  · split at h
    · cases h
    · simp only [Option.some.injEq, Prod.mk.injEq] at h
      obtain ⟨_, _, rfl⟩ := h
      exact hd _ _ hb hl
  · split at h
    · split at h
      · cases h
      · rename_i m r he
        rw [he] at hb hl
        split at h
        · cases h
        · simp only [Option.some.injEq, Prod.mk.injEq] at h
          obtain ⟨_, _, rfl⟩ := h
          exact hd _ _ (fun y hy => hb y (by simp [hy])) (by simp at hl; omega)
    · split at h
      · rename_i i' m r he
        rw [he] at hb hl
        split at h
        · cases h
        · split at h
          · cases h
          · simp only [Option.some.injEq, Prod.mk.injEq] at h
            obtain ⟨_, _, rfl⟩ := h
            exact hd _ _ (fun y hy => hb y (by simp [hy])) (by simp at hl; omega)
      · cases h

/-! ### rows in memory -/
def RdC (W : World) (A : Option Addr) (xs : List Value) : Prop := xs = [] ∨ ∃ b off, A = some ⟨b, off, none⟩ ∧ ∀ j v, xs[j]? = some v → W.cell? ⟨b, off + j, none⟩ = some v
section
variable {W W' : World} {A : Option Addr} {xs : List Value}
theorem RdC.below (h : RdC W A xs) (hb : Below W.heap.size W W') : RdC W' A xs := by
  rcases h with rfl | ⟨b, off, rfl, h⟩
  · exact .inl rfl
  · exact .inr ⟨b, off, rfl, fun j v hj => (hb.cell (World.block_lt_of_cell? W _ (h j v hj))).trans (h j v hj)⟩
theorem RdC.at_ (h : RdC W A xs) {j : Nat} {v : Value} (hj : xs[j]? = some v) : ∃ b off, A = some ⟨b, off, none⟩ ∧ W.cell? ⟨b, off + j, none⟩ = some v := by
  rcases h with rfl | ⟨b, off, rfl, h⟩
  · simp at hj
  · exact ⟨b, off, rfl, h j v hj⟩
theorem RdC.cs (h : RdC W A xs) : Cs W A xs := by
  rcases h with rfl | ⟨b, off, rfl, h⟩
  · exact .inl rfl
  · exact .inr ⟨_, rfl, fun j v hj => by rw [Addr.add_lit]; exact h j v hj⟩
theorem RdC.rdk {w : List Nat} (h : RdC W A (w.map nv)) : RdK .u64 W A (w.map (fun (x : Nat) => (x : Int))) := by
  rcases h with h0 | ⟨b, off, rfl, h⟩
  · exact .inl (by rw [List.map_eq_nil_iff] at h0 ⊢; exact h0)
  · refine .inr ⟨b, off, rfl, fun j hj => ?_⟩
    have hj' : j < w.length := by simpa using hj
    rw [h j (nv (w[j]'hj')) (by simp [hj'])]
    simp [nv]
theorem rdc_own {base e n cap : Nat} (h : W.ownsRow base e 1 (.slice A n cap) n xs) : RdC W A xs := by
  have hl : xs.length = n := by have := h.1; simpa using this
  rcases h.2 with ⟨_, rfl⟩ | ⟨g, cap', cur, hv, _⟩
  · exact .inl (List.eq_nil_of_length_eq_zero hl)
  · obtain ⟨rfl, _, rfl⟩ := Value.slice.inj hv
    refine .inr ⟨g, 0, rfl, fun j v hj => ?_⟩
    have hc := h.cells (g := g) rfl j v hj
    rwa [Addr.add_lit] at hc
theorem RdC.drop {b off : Nat} {xs : List Value} (h : RdC W (some ⟨b, off, none⟩) xs) (k : Nat) : RdC W (some ⟨b, off + k, none⟩) (xs.drop k) := by
  rcases h with rfl | ⟨b', off', e, h⟩
  · exact .inl (by simp)
  · simp only [Option.some.injEq, Addr.mk.injEq, and_true] at e
    obtain ⟨rfl, rfl⟩ := e
    exact .inr ⟨b, off + k, rfl, fun j v hj => by rw [List.getElem?_drop] at hj; rw [Nat.add_assoc]; exact h _ v hj⟩
theorem RdC.take {xs : List Value} (h : RdC W A xs) (k : Nat) : RdC W A (xs.take k) := by
  rcases h with rfl | ⟨b, off, rfl, h⟩
  · exact .inl (by simp)
  · exact .inr ⟨b, off, rfl, fun j v hj => by rw [List.getElem?_take] at hj; split at hj; exact h _ v hj; cases hj⟩
end
end Go.Proofs.Ytefnjplfemgibaa
