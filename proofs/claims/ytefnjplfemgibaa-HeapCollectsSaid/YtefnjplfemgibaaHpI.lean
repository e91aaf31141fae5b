/- Heap (layer 9): the plain reader; rows of one-cell values in memory. Heap (layer 9): the walker; the walks of fails, leaf. Heap (layer 9): the walk of the walker's leaf. Written by hpgenh.py. -/
import Derived.Test.YtefnjplfemgibaaHpA
import Derived.Test.YtefnjplfemgibaaArB
import Derived.Test.YtefnjplfemgibaaHpF
namespace Go.Proofs.Ytefnjplfemgibaa
section
open Go.RowKit
set_option linter.unusedVariables false

/-! ### the plain reader -/
def leafP (nm : List (List UInt8)) (n tag : Nat) : Option TV :=
  if tag = 0 then
    (if (n : Int) ≤ 576460752303423487 then some (tI n) else if 1729382256910270464 ≤ (n : Int) then some (tI ((n : Int) - 2305843009213693952)) else none)
  else if tag = 1 then (match nm[n]? with
    | none => none
    | some s => if s ≠ [] ∧ s.length ≤ 255 then some (tA s) else none)
  else if tag = 2 then (if n ≤ 576460752303423487 then some (.mk 5 n [] []) else none)
  else if tag = 3 then (if n ≤ 576460752303423487 then some (.mk 3 n [] []) else none)
  else if n = 0 then some tN else none
def cellP (ws : List Nat) (a tag : Nat) : Option (Int × Int × List Nat) :=
  if tag = 5 then (if (ws.drop a).length < 2 then none else some (8, 0, (ws.drop a).take 2))
  else if tag = 6 then (match ws.drop a with
    | [] => none
    | m :: r => if r.length < m then none else some (6, 0, r.take m))
  else (match ws.drop a with
    | i :: m :: r => if 576460752303423487 < i then none else if r.length < m then none else some (4, (i : Int), r.take m)
    | _ => none)
def rdL (f : Nat → Nat → Except Nat (TV × Nat)) : List Nat → Nat → Except Nat (List TV × Nat)
  | [], left => .ok ([], left)
  | y :: r, left => match f y left with
    | .error e => .error e
    | .ok (t, l1) => match rdL f r l1 with
      | .error e => .error e
      | .ok (ts, l2) => .ok (t :: ts, l2)
/-- The term of a word, whose cell must begin ahead of a place; left: how many parts may still come. -/
def rdT (ws : List Nat) (nm : List (List UInt8)) (ahead x left : Nat) : Except Nat (TV × Nat) :=
  if left = 0 then .error 6
  else if x % 8 < 5 then (match leafP nm (x / 8) (x % 8) with
    | none => .error 90
    | some t => .ok (t, left - 1))
  else if h : x / 8 < ahead then (match cellP ws (x / 8) (x % 8) with
    | none => .error 90
    | some (k, i, items) => match rdL (fun y l => rdT ws nm (x / 8) y l) items (left - 1) with
      | .error e => .error e
      | .ok (ts, l1) => .ok (.mk k i [] ts, l1))
  else .error 90
termination_by ahead
/-- Read: the code, and the terms. -/
def readP (ws : List Nat) (nm : List (List UInt8)) (rs : List Nat) : Except Nat (List TV) :=
  if 65536 < ws.length ∨ 65536 < nm.length ∨ 65536 < rs.length then .error 90
  else match rdL (fun y l => rdT ws nm ws.length y l) rs 4096 with
    | .error e => .error e
    | .ok (ts, _) => .ok ts
theorem rdL_append (f : Nat → Nat → Except Nat (TV × Nat)) (l m : List Nat) (left : Nat) : rdL f (l ++ m) left = match rdL f l left with
    | .error e => .error e
    | .ok (ts, l1) => match rdL f m l1 with
      | .error e => .error e
      | .ok (ts', l2) => .ok (ts ++ ts', l2) := by
  induction l generalizing left with
  | nil => simp only [List.nil_append, rdL]; cases rdL f m left <;> rfl
  | cons y r ih =>
    simp only [List.cons_append, rdL]
    cases f y left with
    | error e => rfl
    | ok q =>
      obtain ⟨t, l1⟩ := q
      simp only
      rw [ih]
      cases rdL f r l1 with
      | error e => rfl
      | ok q2 =>
        obtain ⟨ts, l2⟩ := q2
        simp only
        cases rdL f m l2 with
        | error e => rfl
        | ok q3 => rfl
theorem rdL_len {f : Nat → Nat → Except Nat (TV × Nat)} {l : List Nat} {left l1 : Nat} {ts : List TV} (h : rdL f l left = .ok (ts, l1)) : ts.length = l.length := by
  induction l generalizing left ts l1 with
  | nil => simp only [rdL, Except.ok.injEq, Prod.mk.injEq] at h; rw [← h.1]; rfl
  | cons y r ih =>
    simp only [rdL] at h
    cases hf : f y left with
    | error e => rw [hf] at h; cases h
    | ok q =>
      obtain ⟨t, k1⟩ := q
      rw [hf] at h
      simp only at h
      cases hr : rdL f r k1 with
      | error e => rw [hr] at h; cases h
      | ok q2 =>
        obtain ⟨ts2, k2⟩ := q2
        rw [hr] at h
        simp only [Except.ok.injEq, Prod.mk.injEq] at h
        rw [← h.1]
        simp [ih hr]
theorem cellP_sub {ws : List Nat} {a tag : Nat} {k i : Int} {items : List Nat} (h : cellP ws a tag = some (k, i, items)) : items.length ≤ ws.length ∧ ∀ y ∈ items, y ∈ ws := by
  have hd : ∀ (r : List Nat) (j : Nat), (∀ y ∈ r, y ∈ ws) → r.length ≤ ws.length → (r.take j).length ≤ ws.length ∧ ∀ y ∈ r.take j, y ∈ ws := fun r j h1 h2 => ⟨by rw [List.length_take]; omega, fun y hy => h1 y (List.mem_of_mem_take hy)⟩
  have hb : ∀ y ∈ ws.drop a, y ∈ ws := fun y hy => List.mem_of_mem_drop hy
  have hl : (ws.drop a).length ≤ ws.length := by rw [List.length_drop]; omega
  unfold cellP at h
  split at h
  · split at h
    · cases h
    · simp only [Option.some.injEq, Prod.mk.injEq] at h
      obtain ⟨_, _, rfl⟩ := h
      exact hd _ _ hb hl
  · split at h
    · split at h
      · cases h
      · rename_i m r he
        rw [he] at hb hl
        split at h
        · cases h
        · simp only [Option.some.injEq, Prod.mk.injEq] at h
          obtain ⟨_, _, rfl⟩ := h
          exact hd _ _ (fun y hy => hb y (by simp [hy])) (by simp at hl; omega)
    · split at h
      · rename_i i' m r he
        rw [he] at hb hl
        split at h
        · cases h
        · split at h
          · cases h
          · simp only [Option.some.injEq, Prod.mk.injEq] at h
            obtain ⟨_, _, rfl⟩ := h
            exact hd _ _ (fun y hy => hb y (by simp [hy])) (by simp at hl; omega)
      · cases h

/-! ### rows in memory -/
def RdC (W : World) (A : Option Addr) (xs : List Value) : Prop := xs = [] ∨ ∃ b off, A = some ⟨b, off, none⟩ ∧ ∀ j v, xs[j]? = some v → W.cell? ⟨b, off + j, none⟩ = some v
section
variable {W W' : World} {A : Option Addr} {xs : List Value}
theorem RdC.below (h : RdC W A xs) (hb : Below W.heap.size W W') : RdC W' A xs := by
  rcases h with rfl | ⟨b, off, rfl, h⟩
  · exact .inl rfl
  · exact .inr ⟨b, off, rfl, fun j v hj => (hb.cell (World.block_lt_of_cell? W _ (h j v hj))).trans (h j v hj)⟩
theorem RdC.at_ (h : RdC W A xs) {j : Nat} {v : Value} (hj : xs[j]? = some v) : ∃ b off, A = some ⟨b, off, none⟩ ∧ W.cell? ⟨b, off + j, none⟩ = some v := by
  rcases h with rfl | ⟨b, off, rfl, h⟩
  · simp at hj
  · exact ⟨b, off, rfl, h j v hj⟩
theorem RdC.cs (h : RdC W A xs) : Cs W A xs := by
  rcases h with rfl | ⟨b, off, rfl, h⟩
  · exact .inl rfl
  · exact .inr ⟨_, rfl, fun j v hj => by rw [Addr.add_lit]; exact h j v hj⟩
theorem RdC.rdk {w : List Nat} (h : RdC W A (w.map nv)) : RdK .u64 W A (w.map (fun (x : Nat) => (x : Int))) := by
  rcases h with h0 | ⟨b, off, rfl, h⟩
  · exact .inl (by rw [List.map_eq_nil_iff] at h0 ⊢; exact h0)
  · refine .inr ⟨b, off, rfl, fun j hj => ?_⟩
    have hj' : j < w.length := by simpa using hj
    rw [h j (nv (w[j]'hj')) (by simp [hj'])]
    simp [nv]
theorem rdc_own {base e n cap : Nat} (h : W.ownsRow base e 1 (.slice A n cap) n xs) : RdC W A xs := by
  have hl : xs.length = n := by have := h.1; simpa using this
  rcases h.2 with ⟨_, rfl⟩ | ⟨g, cap', cur, hv, _⟩
  · exact .inl (List.eq_nil_of_length_eq_zero hl)
  · obtain ⟨rfl, _, rfl⟩ := Value.slice.inj hv
    refine .inr ⟨g, 0, rfl, fun j v hj => ?_⟩
    have hc := h.cells (g := g) rfl j v hj
    rwa [Addr.add_lit] at hc
theorem RdC.drop {b off : Nat} {xs : List Value} (h : RdC W (some ⟨b, off, none⟩) xs) (k : Nat) : RdC W (some ⟨b, off + k, none⟩) (xs.drop k) := by
  rcases h with rfl | ⟨b', off', e, h⟩
  · exact .inl (by simp)
  · simp only [Option.some.injEq, Addr.mk.injEq, and_true] at e
    obtain ⟨rfl, rfl⟩ := e
    exact .inr ⟨b, off + k, rfl, fun j v hj => by rw [List.getElem?_drop] at hj; rw [Nat.add_assoc]; exact h _ v hj⟩
theorem RdC.take {xs : List Value} (h : RdC W A xs) (k : Nat) : RdC W A (xs.take k) := by
  rcases h with rfl | ⟨b, off, rfl, h⟩
  · exact .inl (by simp)
  · exact .inr ⟨b, off, rfl, fun j v hj => by rw [List.getElem?_take] at hj; split at hj; exact h _ v hj; cases hj⟩
end
end
section
open Go.RowKit
set_option linter.unusedVariables false

section
variable {W W' : World} {pw : Nat} {Aw Aa Ar : Option Addr} {lw cw la ca lr cr : Nat} {ws : List Nat} {nm : List (List UInt8)}
/-- The cells of a walker. -/
def WC (Aw : Option Addr) (lw cw : Nat) (Aa : Option Addr) (la ca : Nat) (Ar : Option Addr) (lr cr : Nat) (left e : Int) : Array Value := #[.slice Aw lw cw, .slice Aa la ca, .slice Ar lr cr, .int .i64 left, .int .i64 e]
def zT : Value := .agg #[.int .i64 0, .int .i64 0, .string ⟨#[]⟩, .slice none 0 0]
set_option maxHeartbeats 1000000 in
theorem wfails_v {left e : Int} (hB : Blk W pw 79 (WC Aw lw cw Aa la ca Ar lr cr left 0)) : Calls Try.prog 68 #[.pointer (some ⟨pw, 0, none⟩), .int .i64 e] W fun r W' => r = .returned zT ∧ Blk W' pw 79 (WC Aw lw cw Aa la ca Ar lr cr left e) ∧ Fr (fun k => k = pw) W W' := by
  unfold WC at *
  have HB := Lib.hid hB
  clear hB
  obtain ⟨g, hg⟩ : ∃ g, W.heap.size = g := ⟨_, rfl⟩
  have HG := Lib.hid hg
  go_enter Try.func68, Try.ntmps68
  go_upto_region 1 with (fail)
  refine wp_world (fun V => Below W.heap.size W V ∧ Blk V g 37 #[.int .i64 0, .int .i64 0, .string ⟨#[]⟩, .slice none 0 0]) ⟨below_alloc _ _, by rw [← HG.out]; exact Blk.new _ _ _⟩ ?_
  rintro V ⟨hb, hk⟩
  have hw := HB.out.keep hb
  have hgp : g ≠ pw := by have := HB.out.lt; omega
  have HK := Lib.hid hk
  have HW := Lib.hid hw
  have HBL := Lib.hid hb
  have x4 := hw.cell 4
  have xf4 := hw.frozen 4
  have z0 := hk.cell 0
  have z1 := hk.cell 1
  have z2 := hk.cell 2
  have z3 := hk.cell 3
  have zf0 := hk.frozen 0
  have zf1 := hk.frozen 1
  have zf2 := hk.frozen 2
  have zf3 := hk.frozen 3
  clear hb hk hw hg
  go_upto_region 3 with (fail)
  have h1 := HW.out.set_ 4 (.int .i64 e)
  have h2 : Blk (V.setCell ⟨pw, 4, none⟩ (.int .i64 e)) g 37 #[.int .i64 0, .int .i64 0, .string ⟨#[]⟩, .slice none 0 0] := HK.out.far (p := ⟨pw, 4, none⟩) hgp _
  refine wp_world (fun V => Blk V pw 79 #[.slice Aw lw cw, .slice Aa la ca, .slice Ar lr cr, .int .i64 left, .int .i64 e] ∧ Blk V g 37 #[.int .i64 0, .int .i64 0, .string ⟨#[]⟩, .slice none 0 0] ∧ Fr (fun k => k = pw) W V) ⟨by simpa using h1, h2, (Fr.of_below HBL.out _).same (Fr.setCell (fun k => k = pw) V (p := ⟨pw, 4, none⟩) (fun _ => rfl) _)⟩ ?_
  clear h1 h2 x4 xf4 z0 z1 z2 z3 zf0 zf1 zf2 zf3 HK HW HBL
  rintro V2 ⟨h1, h2, h3⟩
  have HW := Lib.hid h1
  have HK := Lib.hid h2
  have HF := Lib.hid h3
  have z0 := h2.cell 0
  have z1 := h2.cell 1
  have z2 := h2.cell 2
  have z3 := h2.cell 3
  have zf0 := h2.frozen 0
  have zf1 := h2.frozen 1
  have zf2 := h2.frozen 2
  have zf3 := h2.frozen 3
  clear h1 h2 h3
  go_wp2
  have hB2 := HK.out.set4 (.int .i64 0) (.int .i64 0) (.string ⟨#[]⟩) (.slice none 0 0)
  have y0 := hB2.cell 0
  have y1 := hB2.cell 1
  have y2 := hB2.cell 2
  have y3 := hB2.cell 3
  refine bodyPost_ret (v := zT) (by simp [zT, results, Try.results68, go_sem, y0, y1, y2, y3]) rfl ?_
  have hfr := fr_set4 V2 g (.int .i64 0) (.int .i64 0) (.string ⟨#[]⟩) (.slice none 0 0)
  exact ⟨rfl, hfr.blk HW.out (fun e9 => hgp e9.symm), HF.out.trans hfr (fun k hk e9 => by have := HG.out; omega)⟩
set_option maxHeartbeats 1000000 in
theorem ppid_v (n : Int) (W : World) : Calls Try.prog 94 #[.int .i64 n] W fun e w' => e = .returned (.agg #[.int .i64 5, .int .i64 n, .string ⟨#[]⟩, .slice none 0 0]) ∧ Below W.heap.size W w' := by
  go_enter Try.func94, Try.ntmps94
  go_wp2
  exact bodyPost_ret (v := .agg #[.int .i64 5, .int .i64 n, .string ⟨#[]⟩, .slice none 0 0]) (by simp [results, Try.results94, go_sem]) rfl ⟨rfl, below_alloc _ _⟩
set_option maxHeartbeats 1000000 in
theorem pref_v (n : Int) (W : World) : Calls Try.prog 95 #[.int .i64 n] W fun e w' => e = .returned (.agg #[.int .i64 3, .int .i64 n, .string ⟨#[]⟩, .slice none 0 0]) ∧ Below W.heap.size W w' := by
  go_enter Try.func95, Try.ntmps95
  go_wp2
  exact bodyPost_ret (v := .agg #[.int .i64 3, .int .i64 n, .string ⟨#[]⟩, .slice none 0 0]) (by simp [results, Try.results95, go_sem]) rfl ⟨rfl, below_alloc _ _⟩
/-- What leaf hands back. -/
def LeafEnds (pw : Nat) (W : World) (r : Option TV) (e : Ending) (W' : World) : Prop := ∃ (k i : Int) (s : List UInt8), e = .returned (.tuple #[.agg #[.int .i64 k, .int .i64 i, .string ⟨s.toArray⟩, .slice none 0 0], .bool r.isSome]) ∧ (∀ t, r = some t → t = .mk k i s []) ∧ Below W.heap.size W W'
end
end
section
open Go.RowKit
set_option linter.unusedVariables false

section
variable {w0 W W' : World} {pw : Nat} {Aw Aa Ar : Option Addr} {lw cw la ca lr cr : Nat} {ws : List Nat} {nm : List (List UInt8)}

set_option maxRecDepth 100000 in
set_option maxHeartbeats 2000000 in
theorem leaf0_v {left : Int} (hB : Blk W pw 79 (WC Aw lw cw Aa la ca Ar lr cr left 0)) (n : Nat) (hn : n < 2305843009213693952) : Calls Try.prog 69 #[.pointer (some ⟨pw, 0, none⟩), .int .u64 (n : Int), .int .i64 0] W (LeafEnds pw W (leafP nm n 0)) := by
  unfold WC at *
  have HB := Lib.hid hB
  clear hB
  obtain ⟨g, hg⟩ : ∃ g, W.heap.size = g := ⟨_, rfl⟩
  have HG := Lib.hid hg
  go_enter Try.func69, Try.ntmps69
  go_upto_region 1 with (fail)
  refine wp_world (fun V => Below W.heap.size W V ∧ Blk V g 37 #[.int .i64 0, .int .i64 0, .string ⟨#[]⟩, .slice none 0 0]) ⟨below_alloc _ _, by rw [← HG.out]; exact Blk.new _ _ _⟩ ?_
  rintro V ⟨hb, hk⟩
  have HK := Lib.hid hk
  have HBL := Lib.hid hb
  have HB := Lib.hid (HB.out.keep hb)
  clear hb hk hg
  obtain ⟨v, hv⟩ : ∃ v : Int, wrap64 ((n : Int) * 8) / 8 = v := ⟨_, rfl⟩
  have hvd : v = if (n : Int) < 1152921504606846976 then (n : Int) else (n : Int) - 2305843009213693952 := by rw [← hv]; unfold wrap64; split <;> omega
  have HV := Lib.hid hv
  have HVD := Lib.hid hvd
  clear hv hvd
  go_upto_region 4 with (fail)
  rw [HV.out]
  by_cases h1 : -576460752303423488 ≤ v
  · by_cases h2 : v ≤ 576460752303423487
    · have d1 : decide (-576460752303423488 ≤ v) = true := by simpa using h1
      have d2 : decide (v ≤ 576460752303423487) = true := by simpa using h2
      have HE := Lib.hid (show leafP nm n 0 = some (tI v) from by have h9 := HVD.out; unfold leafP; rw [if_pos rfl]; split at h9 <;> (subst h9; first | (rw [if_pos (by omega)]) | (rw [if_neg (by omega), if_pos (by omega)]) | omega))
      clear HV HVD
      go_wp2_with (go_at_call 92; refine (pint_v v V).mono ?_; rintro e V2 ⟨rfl, hb2⟩; have HK := Lib.hid (HK.out.keep hb2); have HBL := Lib.hid (below_step HBL.out hb2); have z0 := HK.out.cell 0; have z1 := HK.out.cell 1; have z2 := HK.out.cell 2; have z3 := HK.out.cell 3; have zf0 := HK.out.frozen 0; have zf1 := HK.out.frozen 1; have zf2 := HK.out.frozen 2; have zf3 := HK.out.frozen 3; clear hb2)
      have hB2 := HK.out.set4 (.int .i64 1) (.int .i64 (v)) (.string ⟨([] : List UInt8).toArray⟩) (.slice none 0 0)
      have y0 := hB2.cell 0
      have y1 := hB2.cell 1
      have y2 := hB2.cell 2
      have y3 := hB2.cell 3
      refine bodyPost_ret (v := .tuple #[.agg #[.int .i64 1, .int .i64 (v), .string ⟨([] : List UInt8).toArray⟩, .slice none 0 0], .bool true]) (by simp [results, Try.results69, go_sem, y0, y1, y2, y3]) rfl ?_
      have hfr := fr_set4 V2 g (.int .i64 1) (.int .i64 (v)) (.string ⟨([] : List UInt8).toArray⟩) (.slice none 0 0)
      exact ⟨1, v, [], by rw [HE.out]; rfl, by rw [HE.out]; exact fun t ht => (Option.some.inj ht).symm, HBL.out.trans (hfr.below HBL.out.size (fun k hk => by have := HG.out; omega))⟩
    · have d1 : decide (-576460752303423488 ≤ v) = true := by simpa using h1
      have d2 : decide (v ≤ 576460752303423487) = false := by simpa using h2
      have HE := Lib.hid (show leafP nm n 0 = none from by have h9 := HVD.out; unfold leafP; rw [if_pos rfl]; split at h9 <;> (first | (rw [if_neg (by omega), if_neg (by omega)]) | omega))
      clear HV HVD
      go_wp2_with (go_at_call 92; refine (pint_v v V).mono ?_; rintro e V2 ⟨rfl, hb2⟩; have HK := Lib.hid (HK.out.keep hb2); have HBL := Lib.hid (below_step HBL.out hb2); have z0 := HK.out.cell 0; have z1 := HK.out.cell 1; have z2 := HK.out.cell 2; have z3 := HK.out.cell 3; have zf0 := HK.out.frozen 0; have zf1 := HK.out.frozen 1; have zf2 := HK.out.frozen 2; have zf3 := HK.out.frozen 3; clear hb2)
      have hB2 := HK.out.set4 (.int .i64 1) (.int .i64 (v)) (.string ⟨([] : List UInt8).toArray⟩) (.slice none 0 0)
      have y0 := hB2.cell 0
      have y1 := hB2.cell 1
      have y2 := hB2.cell 2
      have y3 := hB2.cell 3
      refine bodyPost_ret (v := .tuple #[.agg #[.int .i64 1, .int .i64 (v), .string ⟨([] : List UInt8).toArray⟩, .slice none 0 0], .bool false]) (by simp [results, Try.results69, go_sem, y0, y1, y2, y3]) rfl ?_
      have hfr := fr_set4 V2 g (.int .i64 1) (.int .i64 (v)) (.string ⟨([] : List UInt8).toArray⟩) (.slice none 0 0)
      exact ⟨1, v, [], by rw [HE.out]; rfl, by rw [HE.out]; exact fun t ht => (by cases ht), HBL.out.trans (hfr.below HBL.out.size (fun k hk => by have := HG.out; omega))⟩
  · have d1 : decide (-576460752303423488 ≤ v) = false := by simpa using h1
    have HE := Lib.hid (show leafP nm n 0 = none from by have h9 := HVD.out; unfold leafP; rw [if_pos rfl]; split at h9 <;> (first | (rw [if_neg (by omega), if_neg (by omega)]) | omega))
    clear HV HVD
    go_wp2_with (go_at_call 92; refine (pint_v v V).mono ?_; rintro e V2 ⟨rfl, hb2⟩; have HK := Lib.hid (HK.out.keep hb2); have HBL := Lib.hid (below_step HBL.out hb2); have z0 := HK.out.cell 0; have z1 := HK.out.cell 1; have z2 := HK.out.cell 2; have z3 := HK.out.cell 3; have zf0 := HK.out.frozen 0; have zf1 := HK.out.frozen 1; have zf2 := HK.out.frozen 2; have zf3 := HK.out.frozen 3; clear hb2)
    have hB2 := HK.out.set4 (.int .i64 1) (.int .i64 (v)) (.string ⟨([] : List UInt8).toArray⟩) (.slice none 0 0)
    have y0 := hB2.cell 0
    have y1 := hB2.cell 1
    have y2 := hB2.cell 2
    have y3 := hB2.cell 3
    refine bodyPost_ret (v := .tuple #[.agg #[.int .i64 1, .int .i64 (v), .string ⟨([] : List UInt8).toArray⟩, .slice none 0 0], .bool false]) (by simp [results, Try.results69, go_sem, y0, y1, y2, y3]) rfl ?_
    have hfr := fr_set4 V2 g (.int .i64 1) (.int .i64 (v)) (.string ⟨([] : List UInt8).toArray⟩) (.slice none 0 0)
    exact ⟨1, v, [], by rw [HE.out]; rfl, by rw [HE.out]; exact fun t ht => (by cases ht), HBL.out.trans (hfr.below HBL.out.size (fun k hk => by have := HG.out; omega))⟩

set_option maxRecDepth 100000 in
set_option maxHeartbeats 2000000 in
theorem leaf1_v {left : Int} (hB : Blk W pw 79 (WC Aw lw cw Aa la ca Ar lr cr left 0)) (n : Nat) (hn : n < 2305843009213693952) (hN : RdC W Aa (nm.map hv)) (hl : nm.length = la) (hla : la ≤ 100000) : Calls Try.prog 69 #[.pointer (some ⟨pw, 0, none⟩), .int .u64 (n : Int), .int .i64 1] W (LeafEnds pw W (leafP nm n 1)) := by
  have HN := Lib.hid hN
  have HL := Lib.hid hl
  clear hN hl
  unfold WC at *
  have HB := Lib.hid hB
  clear hB
  obtain ⟨g, hg⟩ : ∃ g, W.heap.size = g := ⟨_, rfl⟩
  have HG := Lib.hid hg
  go_enter Try.func69, Try.ntmps69
  go_upto_region 1 with (fail)
  refine wp_world (fun V => Below W.heap.size W V ∧ Blk V g 37 #[.int .i64 0, .int .i64 0, .string ⟨#[]⟩, .slice none 0 0]) ⟨below_alloc _ _, by rw [← HG.out]; exact Blk.new _ _ _⟩ ?_
  rintro V ⟨hb, hk⟩
  have HK := Lib.hid hk
  have HBL := Lib.hid hb
  have HB := Lib.hid (HB.out.keep hb)
  clear hb hk hg
  have x1 := HB.out.cell 1
  have HNV := Lib.hid (HN.out.below HBL.out)
  by_cases hlt : n < la
  · have hk : n < nm.length := by rw [HL.out]; exact hlt
    obtain ⟨s, hs⟩ : ∃ s, nm[n] = s := ⟨_, rfl⟩
    have hq : nm[n]? = some s := by rw [← hs]; exact List.getElem?_eq_getElem hk
    obtain ⟨b, off, rfl, hc⟩ := HNV.out.at_ (j := n) (v := hv s) (by simp [hq])
    unfold hv at hc
    have HQ := Lib.hid hq
    have d1 : decide ((la : Int) ≤ (n : Int)) = false := by simp; omega
    have q1 : (0 : Int) ≤ (n : Int) := by omega
    have q2 : (n : Int) < (la : Int) := by omega
    clear hk hs hq
    by_cases h1 : s = []
    · subst h1
      have HE := Lib.hid (show leafP nm n 1 = none from by unfold leafP; rw [if_neg (by decide), if_pos rfl, HQ.out]; simp)
      go_wp2_with (go_at_call 93; refine (patom_v [] V).mono ?_; rintro e V2 ⟨rfl, hb2⟩; have HK := Lib.hid (HK.out.keep hb2); have HBL := Lib.hid (below_step HBL.out hb2); have z0 := HK.out.cell 0; have z1 := HK.out.cell 1; have z2 := HK.out.cell 2; have z3 := HK.out.cell 3; have zf0 := HK.out.frozen 0; have zf1 := HK.out.frozen 1; have zf2 := HK.out.frozen 2; have zf3 := HK.out.frozen 3; clear hb2)
      have hB2 := HK.out.set4 (.int .i64 2) (.int .i64 (0)) (.string ⟨([] : List UInt8).toArray⟩) (.slice none 0 0)
      have y0 := hB2.cell 0
      have y1 := hB2.cell 1
      have y2 := hB2.cell 2
      have y3 := hB2.cell 3
      refine bodyPost_ret (v := .tuple #[.agg #[.int .i64 2, .int .i64 (0), .string ⟨([] : List UInt8).toArray⟩, .slice none 0 0], .bool false]) (by simp [results, Try.results69, go_sem, y0, y1, y2, y3]) rfl ?_
      have hfr := fr_set4 V2 g (.int .i64 2) (.int .i64 (0)) (.string ⟨([] : List UInt8).toArray⟩) (.slice none 0 0)
      exact ⟨2, 0, [], by rw [HE.out]; rfl, by rw [HE.out]; exact fun t ht => (by cases ht), HBL.out.trans (hfr.below HBL.out.size (fun k hk => by have := HG.out; omega))⟩
    · have d0 : s.isEmpty = false := by simp [h1]
      by_cases h2 : s.length ≤ 255
      · have d2 : decide ((s.length : Int) ≤ 255) = true := by simp; omega
        have HE := Lib.hid (show leafP nm n 1 = some (tA s) from by unfold leafP; rw [if_neg (by decide), if_pos rfl, HQ.out]; simp only; rw [if_pos ⟨h1, h2⟩])
        go_wp2_with (go_at_call 93; refine (patom_v s V).mono ?_; rintro e V2 ⟨rfl, hb2⟩; have HK := Lib.hid (HK.out.keep hb2); have HBL := Lib.hid (below_step HBL.out hb2); have z0 := HK.out.cell 0; have z1 := HK.out.cell 1; have z2 := HK.out.cell 2; have z3 := HK.out.cell 3; have zf0 := HK.out.frozen 0; have zf1 := HK.out.frozen 1; have zf2 := HK.out.frozen 2; have zf3 := HK.out.frozen 3; clear hb2)
        have hB2 := HK.out.set4 (.int .i64 2) (.int .i64 (0)) (.string ⟨(s : List UInt8).toArray⟩) (.slice none 0 0)
        have y0 := hB2.cell 0
        have y1 := hB2.cell 1
        have y2 := hB2.cell 2
        have y3 := hB2.cell 3
        refine bodyPost_ret (v := .tuple #[.agg #[.int .i64 2, .int .i64 (0), .string ⟨(s : List UInt8).toArray⟩, .slice none 0 0], .bool true]) (by simp [results, Try.results69, go_sem, y0, y1, y2, y3]) rfl ?_
        have hfr := fr_set4 V2 g (.int .i64 2) (.int .i64 (0)) (.string ⟨(s : List UInt8).toArray⟩) (.slice none 0 0)
        exact ⟨2, 0, s, by rw [HE.out]; rfl, by rw [HE.out]; exact fun t ht => (Option.some.inj ht).symm, HBL.out.trans (hfr.below HBL.out.size (fun k hk => by have := HG.out; omega))⟩
      · have d2 : decide ((s.length : Int) ≤ 255) = false := by simp; omega
        have HE := Lib.hid (show leafP nm n 1 = none from by unfold leafP; rw [if_neg (by decide), if_pos rfl, HQ.out]; simp only; rw [if_neg (fun h => h2 h.2)])
        go_wp2_with (go_at_call 93; refine (patom_v s V).mono ?_; rintro e V2 ⟨rfl, hb2⟩; have HK := Lib.hid (HK.out.keep hb2); have HBL := Lib.hid (below_step HBL.out hb2); have z0 := HK.out.cell 0; have z1 := HK.out.cell 1; have z2 := HK.out.cell 2; have z3 := HK.out.cell 3; have zf0 := HK.out.frozen 0; have zf1 := HK.out.frozen 1; have zf2 := HK.out.frozen 2; have zf3 := HK.out.frozen 3; clear hb2)
        have hB2 := HK.out.set4 (.int .i64 2) (.int .i64 (0)) (.string ⟨(s : List UInt8).toArray⟩) (.slice none 0 0)
        have y0 := hB2.cell 0
        have y1 := hB2.cell 1
        have y2 := hB2.cell 2
        have y3 := hB2.cell 3
        refine bodyPost_ret (v := .tuple #[.agg #[.int .i64 2, .int .i64 (0), .string ⟨(s : List UInt8).toArray⟩, .slice none 0 0], .bool false]) (by simp [results, Try.results69, go_sem, y0, y1, y2, y3]) rfl ?_
        have hfr := fr_set4 V2 g (.int .i64 2) (.int .i64 (0)) (.string ⟨(s : List UInt8).toArray⟩) (.slice none 0 0)
        exact ⟨2, 0, s, by rw [HE.out]; rfl, by rw [HE.out]; exact fun t ht => (by cases ht), HBL.out.trans (hfr.below HBL.out.size (fun k hk => by have := HG.out; omega))⟩
  · have d1 : decide ((la : Int) ≤ (n : Int)) = true := by simp; omega
    have HE := Lib.hid (show leafP nm n 1 = none from by unfold leafP; rw [if_neg (by decide), if_pos rfl, List.getElem?_eq_none (by rw [HL.out]; omega)])
    have z0 := HK.out.cell 0
    have z1 := HK.out.cell 1
    have z2 := HK.out.cell 2
    have z3 := HK.out.cell 3
    have zf0 := HK.out.frozen 0
    have zf1 := HK.out.frozen 1
    have zf2 := HK.out.frozen 2
    have zf3 := HK.out.frozen 3
    go_wp2
    have hB2 := HK.out.set4 (.int .i64 0) (.int .i64 (0)) (.string ⟨([] : List UInt8).toArray⟩) (.slice none 0 0)
    have y0 := hB2.cell 0
    have y1 := hB2.cell 1
    have y2 := hB2.cell 2
    have y3 := hB2.cell 3
    refine bodyPost_ret (v := .tuple #[.agg #[.int .i64 0, .int .i64 (0), .string ⟨([] : List UInt8).toArray⟩, .slice none 0 0], .bool false]) (by simp [results, Try.results69, go_sem, y0, y1, y2, y3]) rfl ?_
    have hfr := fr_set4 V g (.int .i64 0) (.int .i64 (0)) (.string ⟨([] : List UInt8).toArray⟩) (.slice none 0 0)
    exact ⟨0, 0, [], by rw [HE.out]; rfl, by rw [HE.out]; exact fun t ht => (by cases ht), HBL.out.trans (hfr.below HBL.out.size (fun k hk => by have := HG.out; omega))⟩

set_option maxRecDepth 100000 in
set_option maxHeartbeats 2000000 in
theorem leaf2_v {left : Int} (hB : Blk W pw 79 (WC Aw lw cw Aa la ca Ar lr cr left 0)) (n : Nat) (hn : n < 2305843009213693952) : Calls Try.prog 69 #[.pointer (some ⟨pw, 0, none⟩), .int .u64 (n : Int), .int .i64 2] W (LeafEnds pw W (leafP nm n 2)) := by
  unfold WC at *
  have HB := Lib.hid hB
  clear hB
  obtain ⟨g, hg⟩ : ∃ g, W.heap.size = g := ⟨_, rfl⟩
  have HG := Lib.hid hg
  go_enter Try.func69, Try.ntmps69
  go_upto_region 1 with (fail)
  refine wp_world (fun V => Below W.heap.size W V ∧ Blk V g 37 #[.int .i64 0, .int .i64 0, .string ⟨#[]⟩, .slice none 0 0]) ⟨below_alloc _ _, by rw [← HG.out]; exact Blk.new _ _ _⟩ ?_
  rintro V ⟨hb, hk⟩
  have HK := Lib.hid hk
  have HBL := Lib.hid hb
  have HB := Lib.hid (HB.out.keep hb)
  clear hb hk hg
  by_cases h1 : n ≤ 576460752303423487
  · have d1 : decide ((n : Int) ≤ 576460752303423487) = true := by simp; omega
    have HE := Lib.hid (show leafP nm n 2 = some (.mk 5 n [] []) from by unfold leafP; rw [if_neg (by decide), if_neg (by decide), if_pos rfl, if_pos h1])
    go_wp2_with (go_at_call 94; refine (ppid_v (n : Int) V).mono ?_; rintro e V2 ⟨rfl, hb2⟩; have HK := Lib.hid (HK.out.keep hb2); have HBL := Lib.hid (below_step HBL.out hb2); have z0 := HK.out.cell 0; have z1 := HK.out.cell 1; have z2 := HK.out.cell 2; have z3 := HK.out.cell 3; have zf0 := HK.out.frozen 0; have zf1 := HK.out.frozen 1; have zf2 := HK.out.frozen 2; have zf3 := HK.out.frozen 3; clear hb2)
    have hB2 := HK.out.set4 (.int .i64 5) (.int .i64 ((n : Int))) (.string ⟨([] : List UInt8).toArray⟩) (.slice none 0 0)
    have y0 := hB2.cell 0
    have y1 := hB2.cell 1
    have y2 := hB2.cell 2
    have y3 := hB2.cell 3
    refine bodyPost_ret (v := .tuple #[.agg #[.int .i64 5, .int .i64 ((n : Int)), .string ⟨([] : List UInt8).toArray⟩, .slice none 0 0], .bool true]) (by simp [results, Try.results69, go_sem, y0, y1, y2, y3]) rfl ?_
    have hfr := fr_set4 V2 g (.int .i64 5) (.int .i64 ((n : Int))) (.string ⟨([] : List UInt8).toArray⟩) (.slice none 0 0)
    exact ⟨5, (n : Int), [], by rw [HE.out]; rfl, by rw [HE.out]; exact fun t ht => (Option.some.inj ht).symm, HBL.out.trans (hfr.below HBL.out.size (fun k hk => by have := HG.out; omega))⟩
  · have d1 : decide ((n : Int) ≤ 576460752303423487) = false := by simp; omega
    have HE := Lib.hid (show leafP nm n 2 = none from by unfold leafP; rw [if_neg (by decide), if_neg (by decide), if_pos rfl, if_neg h1])
    go_wp2_with (go_at_call 94; refine (ppid_v (n : Int) V).mono ?_; rintro e V2 ⟨rfl, hb2⟩; have HK := Lib.hid (HK.out.keep hb2); have HBL := Lib.hid (below_step HBL.out hb2); have z0 := HK.out.cell 0; have z1 := HK.out.cell 1; have z2 := HK.out.cell 2; have z3 := HK.out.cell 3; have zf0 := HK.out.frozen 0; have zf1 := HK.out.frozen 1; have zf2 := HK.out.frozen 2; have zf3 := HK.out.frozen 3; clear hb2)
    have hB2 := HK.out.set4 (.int .i64 5) (.int .i64 ((n : Int))) (.string ⟨([] : List UInt8).toArray⟩) (.slice none 0 0)
    have y0 := hB2.cell 0
    have y1 := hB2.cell 1
    have y2 := hB2.cell 2
    have y3 := hB2.cell 3
    refine bodyPost_ret (v := .tuple #[.agg #[.int .i64 5, .int .i64 ((n : Int)), .string ⟨([] : List UInt8).toArray⟩, .slice none 0 0], .bool false]) (by simp [results, Try.results69, go_sem, y0, y1, y2, y3]) rfl ?_
    have hfr := fr_set4 V2 g (.int .i64 5) (.int .i64 ((n : Int))) (.string ⟨([] : List UInt8).toArray⟩) (.slice none 0 0)
    exact ⟨5, (n : Int), [], by rw [HE.out]; rfl, by rw [HE.out]; exact fun t ht => (by cases ht), HBL.out.trans (hfr.below HBL.out.size (fun k hk => by have := HG.out; omega))⟩

set_option maxRecDepth 100000 in
set_option maxHeartbeats 2000000 in
theorem leaf3_v {left : Int} (hB : Blk W pw 79 (WC Aw lw cw Aa la ca Ar lr cr left 0)) (n : Nat) (hn : n < 2305843009213693952) : Calls Try.prog 69 #[.pointer (some ⟨pw, 0, none⟩), .int .u64 (n : Int), .int .i64 3] W (LeafEnds pw W (leafP nm n 3)) := by
  unfold WC at *
  have HB := Lib.hid hB
  clear hB
  obtain ⟨g, hg⟩ : ∃ g, W.heap.size = g := ⟨_, rfl⟩
  have HG := Lib.hid hg
  go_enter Try.func69, Try.ntmps69
  go_upto_region 1 with (fail)
  refine wp_world (fun V => Below W.heap.size W V ∧ Blk V g 37 #[.int .i64 0, .int .i64 0, .string ⟨#[]⟩, .slice none 0 0]) ⟨below_alloc _ _, by rw [← HG.out]; exact Blk.new _ _ _⟩ ?_
  rintro V ⟨hb, hk⟩
  have HK := Lib.hid hk
  have HBL := Lib.hid hb
  have HB := Lib.hid (HB.out.keep hb)
  clear hb hk hg
  by_cases h1 : n ≤ 576460752303423487
  · have d1 : decide ((n : Int) ≤ 576460752303423487) = true := by simp; omega
    have HE := Lib.hid (show leafP nm n 3 = some (.mk 3 n [] []) from by unfold leafP; rw [if_neg (by decide), if_neg (by decide), if_neg (by decide), if_pos rfl, if_pos h1])
    go_wp2_with (go_at_call 95; refine (pref_v (n : Int) V).mono ?_; rintro e V2 ⟨rfl, hb2⟩; have HK := Lib.hid (HK.out.keep hb2); have HBL := Lib.hid (below_step HBL.out hb2); have z0 := HK.out.cell 0; have z1 := HK.out.cell 1; have z2 := HK.out.cell 2; have z3 := HK.out.cell 3; have zf0 := HK.out.frozen 0; have zf1 := HK.out.frozen 1; have zf2 := HK.out.frozen 2; have zf3 := HK.out.frozen 3; clear hb2)
    have hB2 := HK.out.set4 (.int .i64 3) (.int .i64 ((n : Int))) (.string ⟨([] : List UInt8).toArray⟩) (.slice none 0 0)
    have y0 := hB2.cell 0
    have y1 := hB2.cell 1
    have y2 := hB2.cell 2
    have y3 := hB2.cell 3
    refine bodyPost_ret (v := .tuple #[.agg #[.int .i64 3, .int .i64 ((n : Int)), .string ⟨([] : List UInt8).toArray⟩, .slice none 0 0], .bool true]) (by simp [results, Try.results69, go_sem, y0, y1, y2, y3]) rfl ?_
    have hfr := fr_set4 V2 g (.int .i64 3) (.int .i64 ((n : Int))) (.string ⟨([] : List UInt8).toArray⟩) (.slice none 0 0)
    exact ⟨3, (n : Int), [], by rw [HE.out]; rfl, by rw [HE.out]; exact fun t ht => (Option.some.inj ht).symm, HBL.out.trans (hfr.below HBL.out.size (fun k hk => by have := HG.out; omega))⟩
  · have d1 : decide ((n : Int) ≤ 576460752303423487) = false := by simp; omega
    have HE := Lib.hid (show leafP nm n 3 = none from by unfold leafP; rw [if_neg (by decide), if_neg (by decide), if_neg (by decide), if_pos rfl, if_neg h1])
    go_wp2_with (go_at_call 95; refine (pref_v (n : Int) V).mono ?_; rintro e V2 ⟨rfl, hb2⟩; have HK := Lib.hid (HK.out.keep hb2); have HBL := Lib.hid (below_step HBL.out hb2); have z0 := HK.out.cell 0; have z1 := HK.out.cell 1; have z2 := HK.out.cell 2; have z3 := HK.out.cell 3; have zf0 := HK.out.frozen 0; have zf1 := HK.out.frozen 1; have zf2 := HK.out.frozen 2; have zf3 := HK.out.frozen 3; clear hb2)
    have hB2 := HK.out.set4 (.int .i64 3) (.int .i64 ((n : Int))) (.string ⟨([] : List UInt8).toArray⟩) (.slice none 0 0)
    have y0 := hB2.cell 0
    have y1 := hB2.cell 1
    have y2 := hB2.cell 2
    have y3 := hB2.cell 3
    refine bodyPost_ret (v := .tuple #[.agg #[.int .i64 3, .int .i64 ((n : Int)), .string ⟨([] : List UInt8).toArray⟩, .slice none 0 0], .bool false]) (by simp [results, Try.results69, go_sem, y0, y1, y2, y3]) rfl ?_
    have hfr := fr_set4 V2 g (.int .i64 3) (.int .i64 ((n : Int))) (.string ⟨([] : List UInt8).toArray⟩) (.slice none 0 0)
    exact ⟨3, (n : Int), [], by rw [HE.out]; rfl, by rw [HE.out]; exact fun t ht => (by cases ht), HBL.out.trans (hfr.below HBL.out.size (fun k hk => by have := HG.out; omega))⟩

set_option maxRecDepth 100000 in
set_option maxHeartbeats 2000000 in
theorem leaf4_v {left : Int} (hB : Blk W pw 79 (WC Aw lw cw Aa la ca Ar lr cr left 0)) (n : Nat) (hn : n < 2305843009213693952) : Calls Try.prog 69 #[.pointer (some ⟨pw, 0, none⟩), .int .u64 (n : Int), .int .i64 4] W (LeafEnds pw W (leafP nm n 4)) := by
  unfold WC at *
  have HB := Lib.hid hB
  clear hB
  obtain ⟨g, hg⟩ : ∃ g, W.heap.size = g := ⟨_, rfl⟩
  have HG := Lib.hid hg
  go_enter Try.func69, Try.ntmps69
  go_upto_region 1 with (fail)
  refine wp_world (fun V => Below W.heap.size W V ∧ Blk V g 37 #[.int .i64 0, .int .i64 0, .string ⟨#[]⟩, .slice none 0 0]) ⟨below_alloc _ _, by rw [← HG.out]; exact Blk.new _ _ _⟩ ?_
  rintro V ⟨hb, hk⟩
  have HK := Lib.hid hk
  have HBL := Lib.hid hb
  have HB := Lib.hid (HB.out.keep hb)
  clear hb hk hg
  by_cases h1 : n = 0
  · subst h1
    have HE := Lib.hid (show leafP nm 0 4 = some tN from rfl)
    go_wp2_with (go_at_call 96; refine (pnil_v V).mono ?_; rintro e V2 ⟨rfl, hb2⟩; have HK := Lib.hid (HK.out.keep hb2); have HBL := Lib.hid (below_step HBL.out hb2); have z0 := HK.out.cell 0; have z1 := HK.out.cell 1; have z2 := HK.out.cell 2; have z3 := HK.out.cell 3; have zf0 := HK.out.frozen 0; have zf1 := HK.out.frozen 1; have zf2 := HK.out.frozen 2; have zf3 := HK.out.frozen 3; clear hb2)
    have hB2 := HK.out.set4 (.int .i64 7) (.int .i64 (0)) (.string ⟨([] : List UInt8).toArray⟩) (.slice none 0 0)
    have y0 := hB2.cell 0
    have y1 := hB2.cell 1
    have y2 := hB2.cell 2
    have y3 := hB2.cell 3
    refine bodyPost_ret (v := .tuple #[.agg #[.int .i64 7, .int .i64 (0), .string ⟨([] : List UInt8).toArray⟩, .slice none 0 0], .bool true]) (by simp [results, Try.results69, go_sem, y0, y1, y2, y3]) rfl ?_
    have hfr := fr_set4 V2 g (.int .i64 7) (.int .i64 (0)) (.string ⟨([] : List UInt8).toArray⟩) (.slice none 0 0)
    exact ⟨7, 0, [], by rw [HE.out]; rfl, by rw [HE.out]; exact fun t ht => (Option.some.inj ht).symm, HBL.out.trans (hfr.below HBL.out.size (fun k hk => by have := HG.out; omega))⟩
  · have d1 : ((n : Int) == 0) = false := by simpa using h1
    have HE := Lib.hid (show leafP nm n 4 = none from by unfold leafP; rw [if_neg (by decide), if_neg (by decide), if_neg (by decide), if_neg (by decide), if_neg h1])
    go_wp2_with (go_at_call 96; refine (pnil_v V).mono ?_; rintro e V2 ⟨rfl, hb2⟩; have HK := Lib.hid (HK.out.keep hb2); have HBL := Lib.hid (below_step HBL.out hb2); have z0 := HK.out.cell 0; have z1 := HK.out.cell 1; have z2 := HK.out.cell 2; have z3 := HK.out.cell 3; have zf0 := HK.out.frozen 0; have zf1 := HK.out.frozen 1; have zf2 := HK.out.frozen 2; have zf3 := HK.out.frozen 3; clear hb2)
    have hB2 := HK.out.set4 (.int .i64 7) (.int .i64 (0)) (.string ⟨([] : List UInt8).toArray⟩) (.slice none 0 0)
    have y0 := hB2.cell 0
    have y1 := hB2.cell 1
    have y2 := hB2.cell 2
    have y3 := hB2.cell 3
    refine bodyPost_ret (v := .tuple #[.agg #[.int .i64 7, .int .i64 (0), .string ⟨([] : List UInt8).toArray⟩, .slice none 0 0], .bool false]) (by simp [results, Try.results69, go_sem, y0, y1, y2, y3]) rfl ?_
    have hfr := fr_set4 V2 g (.int .i64 7) (.int .i64 (0)) (.string ⟨([] : List UInt8).toArray⟩) (.slice none 0 0)
    exact ⟨7, 0, [], by rw [HE.out]; rfl, by rw [HE.out]; exact fun t ht => (by cases ht), HBL.out.trans (hfr.below HBL.out.size (fun k hk => by have := HG.out; omega))⟩

theorem wleaf_v {left : Int} (hB : Blk W pw 79 (WC Aw lw cw Aa la ca Ar lr cr left 0)) (hN : RdC W Aa (nm.map hv)) (hl : nm.length = la) (hla : la ≤ 100000) (n tag : Nat) (hn : n < 2305843009213693952) (ht : tag < 5) : Calls Try.prog 69 #[.pointer (some ⟨pw, 0, none⟩), .int .u64 (n : Int), .int .i64 (tag : Int)] W (LeafEnds pw W (leafP nm n tag)) := by
  match tag, ht with
  | 0, _ => exact leaf0_v hB n hn
  | 1, _ => exact leaf1_v hB n hn hN hl hla
  | 2, _ => exact leaf2_v hB n hn
  | 3, _ => exact leaf3_v hB n hn
  | 4, _ => exact leaf4_v hB n hn
end
end
end Go.Proofs.Ytefnjplfemgibaa
