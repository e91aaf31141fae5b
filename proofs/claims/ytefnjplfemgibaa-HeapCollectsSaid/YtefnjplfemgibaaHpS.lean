/- Maps from bytes to integers, of the call's own (layer 9): the plain list by rising keys, its data, the lookups and the stores. Written by hpgenm.py. Heap (layer 9): the plain heap under way: what is laid, cell by cell. No function of the program is named here. -/
import Derived.Test.YtefnjplfemgibaaMapA
import Derived.Test.YtefnjplfemgibaaProg
import Derived.WalkArith
import Derived.Test.YtefnjplfemgibaaTermI
import Derived.Test.YtefnjplfemgibaaEncA
namespace Go.Proofs.Ytefnjplfemgibaa
section
open Go.RowKit Go.Maps Go.WideMaps
set_option linter.unusedVariables false

/-- Entries by rising keys. -/
abbrev SL := List (List UInt8 × Int)
def sget (L : SL) (s : List UInt8) : Option Int := (L.find? (fun q => q.1 == s)).map (·.2)
def sins (x : List UInt8 × Int) : SL → SL
  | [] => [x]
  | y :: r => if bytesBefore x.1 y.1 then x :: y :: r else y :: sins x r
def sdat (κ : IntKind) (L : SL) : DataW Unit := .map (L.map fun q => (.string q.1, .lit (.int κ q.2)))
section
variable {L : SL} {κ : IntKind}
theorem sget_sins (x : List UInt8 × Int) (L : SL) (hx : sget L x.1 = none) (s : List UInt8) : sget (sins x L) s = if x.1 = s then some x.2 else sget L s := by
  unfold sget at *
  induction L with
  | nil =>
    by_cases h : x.1 = s
    · simp [sins, h]
    · simp [sins, h, beq_eq_false_iff_ne.2 h]
  | cons a r ih =>
    have h2 : ¬ a.1 = x.1 := by
      intro h
      simp [h] at hx
    have hr : Option.map (fun q : List UInt8 × Int => q.2) (List.find? (fun q => q.1 == x.1) r) = none := by
      rw [List.find?_cons, beq_eq_false_iff_ne.2 h2] at hx
      exact hx
    unfold sins
    split
    · by_cases h : x.1 = s
      · simp [h]
      · rw [List.find?_cons, beq_eq_false_iff_ne.2 h, if_neg h]
    · by_cases ha : a.1 = s
      · have h : ¬ x.1 = s := fun h => h2 (ha.trans h.symm)
        rw [if_neg h, List.find?_cons, List.find?_cons, ha]
        simp
      · rw [List.find?_cons, List.find?_cons, beq_eq_false_iff_ne.2 ha]
        exact ih hr
theorem slen_sins (x : List UInt8 × Int) (L : SL) : (sins x L).length = L.length + 1 := by
  induction L with
  | nil => rfl
  | cons a r ih =>
    unfold sins
    split
    · rfl
    · simp [ih]
theorem has_sdat (L : SL) (s : List UInt8) : Maps.has (sdat κ L) (.string s) = (sget L s).isSome := by
  unfold Maps.has sdat sget
  induction L with
  | nil => rfl
  | cons q r ih =>
    simp only [List.map_cons, List.any_cons, List.find?_cons, Lit.sameKey] at ih ⊢
    cases hq : (q.1 == s) with
    | true => simp
    | false => simpa using ih
theorem at_sdat (L : SL) (s : List UInt8) : (sdat κ L).atKey (.string s) (.lit (.int κ 0)) = .lit (.int κ ((sget L s).getD 0)) := by
  unfold DataW.atKey sdat sget
  induction L with
  | nil => rfl
  | cons q r ih =>
    simp only [List.map_cons, List.find?_cons, Lit.sameKey] at ih ⊢
    cases hq : (q.1 == s) with
    | true => simp
    | false => simpa using ih
theorem put_sdat {s : List UInt8} (h : sget L s = none) (p : Int) : (sdat κ L).put (.string s) (.lit (.int κ p)) = sdat κ (sins (s, p) L) := by
  have h1 : (L.map fun q => ((Lit.string q.1, DataW.lit (H := Unit) (.int κ q.2)) : Lit × DataW Unit)).filter (fun p => !p.1.sameKey (.string s)) = L.map fun q => ((Lit.string q.1, DataW.lit (.int κ q.2)) : Lit × DataW Unit) := by
    unfold sget at h
    rw [Option.map_eq_none_iff, List.find?_eq_none] at h
    refine List.filter_eq_self.2 fun q hq => ?_
    obtain ⟨x, hx, rfl⟩ := List.mem_map.1 hq
    simpa [Lit.sameKey] using h x hx
  unfold DataW.put sdat
  simp only [h1]
  congr 1
  clear h1 h
  induction L with
  | nil => rfl
  | cons q r ih =>
    by_cases hb : bytesBefore s q.1 = true
    · simp [DataW.insert, sins, Lit.before, hb]
    · simp [DataW.insert, sins, Lit.before, hb, ih]
end
theorem sks : Keyed Try.prog 9 := string_keyed Try.underlying9
theorem skeyS {s : List UInt8} (h : s.length ≤ maxLen) : keyOf Try.prog 9 (.string ⟨s.toArray⟩) = some (.string s) := by
  have := keyOf_string_mk Try.underlying9 (s := ⟨s.toArray⟩) (by simpa [ByteArray.size] using h)
  simpa using this

theorem zC (w : World) : (zeroValue 34).run Try.prog w = .ok (.int .u64 0) w := by kernel_rfl
/-- A map[string]uint64 of the call's own, in memory. -/
def SMC (W : World) (b : Nat) (L : SL) : Prop := W.ownsMap (H := Unit) Try.prog 9 (plainElem Try.prog 34) b L.length (sdat .u64 L)
section
variable {W W' : World} {b : Nat} {L : SL}
theorem SMC.look (h : SMC W b L) {s : List UInt8} (hs : s.length ≤ maxLen) :
    (Instr.lookup 67 (.map (some b)) (.string ⟨s.toArray⟩) true).run Try.prog W = .ok (.tuple #[.int .u64 ((sget L s).getD 0), .bool (sget L s).isSome]) W := by
  obtain ⟨v, ps, hrun, hv⟩ := World.ownsMap.look_ok h sks Try.underlying67 (zC W) (plainElem_int Try.underlying34 (by decide)) (skeyS hs)
  rw [at_sdat] at hv
  obtain ⟨c, rfl, hc, _⟩ := plainElem_int_inv Try.underlying34 hv
  simp only [Prod.mk.injEq, DataW.lit.injEq, Lit.int.injEq, true_and] at hc
  rw [hrun, has_sdat, hc.1]
theorem SMC.store (h : SMC W b L) {s : List UInt8} (hs : s.length ≤ maxLen) (hn : sget L s = none) (hL : L.length < maxLen) {p : Int} (hp : (Lit.int .u64 p).wf = true) :
    ∃ w', (Instr.mapUpdate 67 (.map (some b)) (.string ⟨s.toArray⟩) (.int .u64 p)).run Try.prog W = .ok () w' ∧ SMC w' b (sins (s, p) L) ∧ W.grownBy w' (some b) := by
  obtain ⟨wu, h1, h2, h3⟩ := World.ownsMap.store h sks Try.underlying67 hL (skeyS hs) (plainElem_int Try.underlying34 hp)
  refine ⟨wu, h1, ?_, h3.grown⟩
  unfold SMC
  rw [slen_sins, ← put_sdat hn]
  exact h2
theorem SMC.lt (h : SMC W b L) : b < W.heap.size := World.ownsMap.lt h
theorem SMC.fr {F : Nat → Prop} (h : SMC W b L) (hf : Fr F W W') (hn : ¬ F b) : SMC W' b L := owns_fr h hf hn
theorem SMC.keep (h : SMC W b L) (hb : Below W.heap.size W W') : SMC W' b L := owns_keep h hb
end

theorem zA (w : World) : (zeroValue 3).run Try.prog w = .ok (.int .i64 0) w := by kernel_rfl
/-- A map[string]int of the call's own, in memory. -/
def SMA (W : World) (b : Nat) (L : SL) : Prop := W.ownsMap (H := Unit) Try.prog 9 (plainElem Try.prog 3) b L.length (sdat .i64 L)
section
variable {W W' : World} {b : Nat} {L : SL}
theorem SMA.look (h : SMA W b L) {s : List UInt8} (hs : s.length ≤ maxLen) :
    (Instr.lookup 68 (.map (some b)) (.string ⟨s.toArray⟩) true).run Try.prog W = .ok (.tuple #[.int .i64 ((sget L s).getD 0), .bool (sget L s).isSome]) W := by
  obtain ⟨v, ps, hrun, hv⟩ := World.ownsMap.look_ok h sks Try.underlying68 (zA W) (plainElem_int Try.underlying3 (by decide)) (skeyS hs)
  rw [at_sdat] at hv
  obtain ⟨c, rfl, hc, _⟩ := plainElem_int_inv Try.underlying3 hv
  simp only [Prod.mk.injEq, DataW.lit.injEq, Lit.int.injEq, true_and] at hc
  rw [hrun, has_sdat, hc.1]
theorem SMA.store (h : SMA W b L) {s : List UInt8} (hs : s.length ≤ maxLen) (hn : sget L s = none) (hL : L.length < maxLen) {p : Int} (hp : (Lit.int .i64 p).wf = true) :
    ∃ w', (Instr.mapUpdate 68 (.map (some b)) (.string ⟨s.toArray⟩) (.int .i64 p)).run Try.prog W = .ok () w' ∧ SMA w' b (sins (s, p) L) ∧ W.grownBy w' (some b) := by
  obtain ⟨wu, h1, h2, h3⟩ := World.ownsMap.store h sks Try.underlying68 hL (skeyS hs) (plainElem_int Try.underlying3 hp)
  refine ⟨wu, h1, ?_, h3.grown⟩
  unfold SMA
  rw [slen_sins, ← put_sdat hn]
  exact h2
theorem SMA.lt (h : SMA W b L) : b < W.heap.size := World.ownsMap.lt h
theorem SMA.fr {F : Nat → Prop} (h : SMA W b L) (hf : Fr F W W') (hn : ¬ F b) : SMA W' b L := owns_fr h hf hn
theorem SMA.keep (h : SMA W b L) (hb : Below W.heap.size W W') : SMA W' b L := owns_keep h hb
end
end
section
open Go.RowKit
set_option linter.unusedVariables false

/-! ### keys -/
def keyC (tag : Nat) (w : List Nat) : List UInt8 := UInt8.ofNat tag :: laidL w
def W64 (w : List Nat) : Prop := ∀ x ∈ w, x < 18446744073709551616
theorem laidL_cons (n : Nat) (r : List Nat) : laidL (n :: r) = laidB n 0 ++ laidL r := by simp [laidL]
theorem laidL_inj : ∀ (w w' : List Nat), W64 w → W64 w' → laidL w = laidL w' → w = w'
  | [], [], _, _, _ => rfl
  | [], n :: r, _, _, h => by simp [laidL, laidB] at h
  | n :: r, [], _, _, h => by simp [laidL, laidB] at h
  | n :: r, n' :: r', h1, h2, h => by
    rw [laidL_cons, laidL_cons] at h
    obtain ⟨rfl, _, h3⟩ := laidB_ud (h1 n (by simp)) (h2 n' (by simp)) (.inl rfl) (.inl rfl) h
    rw [laidL_inj r r' (fun x hx => h1 x (by simp [hx])) (fun x hx => h2 x (by simp [hx])) h3]
theorem keyC_inj {tag tag' : Nat} {w w' : List Nat} (ht : tag < 8) (ht' : tag' < 8) (hw : W64 w) (hw' : W64 w') (h : keyC tag w = keyC tag' w') : tag = tag' ∧ w = w' := by
  unfold keyC at h
  obtain ⟨h1, h2⟩ := List.cons.inj h
  exact ⟨u8_small (by omega) (by omega) h1, laidL_inj _ _ hw hw' h2⟩

/-! ### the state -/
structure HSt where
  ws : List Nat
  nm : List (List UInt8)
  cs : List (Nat × List Nat × Nat)
def findC (cs : List (Nat × List Nat × Nat)) (tag : Nat) (w : List Nat) : Option Nat := (cs.find? (fun c => c.1 == tag && c.2.1 == w)).map (·.2.2)
def cellS (st : HSt) (tag : Nat) (w : List Nat) : HSt × Nat :=
  match findC st.cs tag w with
  | some a => (st, 8 * a + tag)
  | none => (⟨st.ws ++ w, st.nm, st.cs ++ [(tag, w, st.ws.length)]⟩, 8 * st.ws.length + tag)
def atomS (st : HSt) (s : List UInt8) : HSt × Nat := (if s ∈ st.nm then st else ⟨st.ws, st.nm ++ [s], st.cs⟩, 8 * st.nm.idxOf s + 1)
def u64N (n : Int) : Nat := (n % 18446744073709551616).toNat
def leafW (n : Nat) (tag : Nat) : Nat := 8 * n % 18446744073709551616 + tag
def headS (st : HSt) (k n : Int) (s : List UInt8) (w : List Nat) : HSt × Nat :=
  if k = 2 then atomS st s
  else if k = 5 then (st, leafW (u64N n) 2)
  else if k = 3 then (st, leafW (u64N n) 3)
  else if k = 7 then (st, 4)
  else if k = 8 then cellS st 5 w
  else if k = 6 then cellS st 6 (w.length :: w)
  else if k = 4 then cellS st 7 (u64N n :: w.length :: w)
  else (st, leafW (u64N n) 0)
mutual
def wordS (st : HSt) : TV → HSt × Nat
  | .mk k n s l => headS (wordsS st l).1 k n s (wordsS st l).2
def wordsS (st : HSt) : List TV → HSt × List Nat
  | [] => (st, [])
  | t :: r => ((wordsS (wordS st t).1 r).1, (wordS st t).2 :: (wordsS (wordS st t).1 r).2)
end
theorem wordS_eq (st : HSt) (t : TV) : wordS st t = headS (wordsS st t.items).1 t.kind t.int t.name (wordsS st t.items).2 := by cases t; rw [wordS]; rfl
theorem wordsS_nil (st : HSt) : wordsS st [] = (st, []) := by rw [wordsS]
theorem wordsS_cons (st : HSt) (t : TV) (r : List TV) : wordsS st (t :: r) = ((wordsS (wordS st t).1 r).1, (wordS st t).2 :: (wordsS (wordS st t).1 r).2) := by rw [wordsS]
theorem wordsS_append (st : HSt) (l m : List TV) : wordsS st (l ++ m) = ((wordsS (wordsS st l).1 m).1, (wordsS st l).2 ++ (wordsS (wordsS st l).1 m).2) := by
  induction l generalizing st with
  | nil => rw [wordsS_nil]; rfl
  | cons t r ih => rw [List.cons_append, wordsS_cons, wordsS_cons, ih]; rfl
theorem wordsS_take (st : HSt) (l : List TV) (k : Nat) (h : k < l.length) : wordsS st (l.take (k + 1)) = ((wordS (wordsS st (l.take k)).1 l[k]).1, (wordsS st (l.take k)).2 ++ [(wordS (wordsS st (l.take k)).1 l[k]).2]) := by
  rw [List.take_succ_eq_append_getElem h, wordsS_append, wordsS_cons, wordsS_nil]
theorem wordsS_len (st : HSt) (l : List TV) : (wordsS st l).2.length = l.length := by
  induction l generalizing st with
  | nil => rw [wordsS_nil]; rfl
  | cons t r ih => rw [wordsS_cons]; simp [ih]

/-- What a heap under way is. -/
structure HOk (st : HSt) : Prop where
  w64 : W64 st.ws
  c64 : ∀ c ∈ st.cs, c.1 < 8 ∧ W64 c.2.1 ∧ c.2.2 ≤ st.ws.length
theorem leafW_lt {n tag : Nat} (ht : tag < 8) : leafW n tag < 18446744073709551616 := by unfold leafW; omega
theorem u64N_lt (n : Int) : u64N n < 18446744073709551616 := by unfold u64N; omega
theorem findC_mem {cs : List (Nat × List Nat × Nat)} {tag : Nat} {w : List Nat} {a : Nat} (h : findC cs tag w = some a) : (tag, w, a) ∈ cs := by
  unfold findC at h
  obtain ⟨c, hc, rfl⟩ := Option.map_eq_some_iff.1 h
  have h1 := List.mem_of_find?_eq_some hc
  have h2 := List.find?_some hc
  obtain ⟨x, y, z⟩ := c
  simp only [Bool.and_eq_true, beq_iff_eq] at h2
  obtain ⟨rfl, rfl⟩ := h2
  exact h1
theorem findC_snoc (cs : List (Nat × List Nat × Nat)) (tag : Nat) (w : List Nat) (a : Nat) (hn : findC cs tag w = none) (tag' : Nat) (w' : List Nat) : findC (cs ++ [(tag, w, a)]) tag' w' = if tag = tag' ∧ w = w' then some a else findC cs tag' w' := by
  unfold findC at *
  rw [List.find?_append]
  split
  · rename_i h
    obtain ⟨rfl, rfl⟩ := h
    rw [Option.map_eq_none_iff] at hn
    rw [hn]
    simp
  · rename_i h
    have : ([(tag, w, a)] : List (Nat × List Nat × Nat)).find? (fun c => c.1 == tag' && c.2.1 == w') = none := by
      rw [List.find?_cons]
      have : (tag == tag' && w == w') = false := by
        simp only [Bool.and_eq_false_iff, beq_eq_false_iff_ne]
        by_cases h1 : tag = tag'
        · exact .inr fun h2 => h ⟨h1, h2⟩
        · exact .inl h1
      simp only [this, List.find?_nil]
    rw [this, Option.or_none]
theorem cellS_ok {st : HSt} (h : HOk st) {tag : Nat} (ht : tag < 8) {w : List Nat} (hw : W64 w) : HOk (cellS st tag w).1 := by
  unfold cellS
  split
  · exact h
  · refine ⟨fun x hx => ?_, fun c hc => ?_⟩
    · rcases List.mem_append.1 hx with h1 | h1
      · exact h.w64 x h1
      · exact hw x h1
    · simp only [List.length_append]
      rcases List.mem_append.1 hc with h1 | h1
      · obtain ⟨a, b, c9⟩ := h.c64 c h1
        exact ⟨a, b, by omega⟩
      · simp only [List.mem_singleton] at h1
        subst h1
        exact ⟨ht, hw, by simp⟩
/-- What a term's word does to the state. -/
def StepS (st st' : HSt) (p : Nat) : Prop := HOk st' ∧ st'.ws.length + 1 ≤ st.ws.length + 3 * p ∧ st'.nm.length ≤ st.nm.length + p ∧ st'.cs.length ≤ st.cs.length + p
theorem headS_ok {st : HSt} (h : HOk st) {k n : Int} {s : List UInt8} {w : List Nat} (hw : W64 w) (hws : w.length ≤ 1000000) (hst : st.ws.length ≤ 1000000) (hsa : st.nm.length ≤ 1000000) :
    HOk (headS st k n s w).1 ∧ (headS st k n s w).2 < 18446744073709551616 ∧ (headS st k n s w).1.ws.length ≤ st.ws.length + w.length + 2 ∧ (headS st k n s w).1.nm.length ≤ st.nm.length + 1 ∧ (headS st k n s w).1.cs.length ≤ st.cs.length + 1 := by
  have hcell : ∀ tag (x : List Nat), tag < 8 → W64 x → x.length ≤ w.length + 2 → HOk (cellS st tag x).1 ∧ (cellS st tag x).2 < 18446744073709551616 ∧ (cellS st tag x).1.ws.length ≤ st.ws.length + w.length + 2 ∧ (cellS st tag x).1.nm.length ≤ st.nm.length + 1 ∧ (cellS st tag x).1.cs.length ≤ st.cs.length + 1 := by
    intro tag x ht hx hl
    refine ⟨cellS_ok h ht hx, ?_, ?_⟩
    · unfold cellS
      split
      · rename_i a ha
        have h2 := (h.c64 _ (findC_mem ha)).2.2
        simp only at h2 ⊢
        omega
      · simp only
        omega
    · unfold cellS
      split
      · simp only
        omega
      · simp only [List.length_append, List.length_cons, List.length_nil]
        omega
  have hwl : W64 (w.length :: w) := fun x hx => by
    rcases List.mem_cons.1 hx with rfl | hx
    · omega
    · exact hw x hx
  have hwn : W64 (u64N n :: w.length :: w) := fun x hx => by
    rcases List.mem_cons.1 hx with rfl | hx
    · exact u64N_lt n
    · exact hwl x hx
  have hleaf : ∀ x, x < 18446744073709551616 → HOk (st, x).1 ∧ (st, x).2 < 18446744073709551616 ∧ (st, x).1.ws.length ≤ st.ws.length + w.length + 2 ∧ (st, x).1.nm.length ≤ st.nm.length + 1 ∧ (st, x).1.cs.length ≤ st.cs.length + 1 := fun x hx => ⟨h, hx, by simp only; omega, by simp only; omega, by simp only; omega⟩
  unfold headS
  repeat' split
  · have hi : st.nm.idxOf s ≤ st.nm.length := List.idxOf_le_length
    unfold atomS
    refine ⟨?_, by simp only; omega, ?_⟩
    · split
      · exact h
      · exact ⟨h.w64, h.c64⟩
    · simp only
      split
      · omega
      · simp only [List.length_append, List.length_cons, List.length_nil]; omega
  · exact hleaf _ (leafW_lt (by omega))
  · exact hleaf _ (leafW_lt (by omega))
  · exact hleaf _ (by omega)
  · exact hcell 5 w (by omega) hw (by omega)
  · exact hcell 6 _ (by omega) hwl (by simp)
  · exact hcell 7 _ (by omega) hwn (by simp)
  · exact hleaf _ (leafW_lt (by omega))
mutual
theorem wordS_ok : ∀ (t : TV) (st : HSt), HOk st → st.ws.length + 3 * t.parts ≤ 1000000 → st.nm.length + t.parts ≤ 1000000 → StepS st (wordS st t).1 t.parts ∧ (wordS st t).2 < 18446744073709551616
  | .mk k n s l, st, h, hb1, hb2 => by
    simp only [TV.parts] at hb1 hb2 ⊢
    have hlp := len_parts l
    obtain ⟨⟨h1, h2, h3, h4⟩, h5⟩ := wordsS_ok l st h (by omega) (by omega)
    have hl := wordsS_len st l
    rw [wordS]
    obtain ⟨g1, g2, g3, g4, g5⟩ := headS_ok (st := (wordsS st l).1) h1 (k := k) (n := n) (s := s) (w := (wordsS st l).2) h5 (by omega) (by omega) (by omega)
    exact ⟨⟨g1, by omega, by omega, by omega⟩, g2⟩
theorem wordsS_ok : ∀ (l : List TV) (st : HSt), HOk st → st.ws.length + 3 * TV.partsL l ≤ 1000000 → st.nm.length + TV.partsL l ≤ 1000000 → (HOk (wordsS st l).1 ∧ (wordsS st l).1.ws.length + l.length ≤ st.ws.length + 3 * TV.partsL l ∧ (wordsS st l).1.nm.length ≤ st.nm.length + TV.partsL l ∧ (wordsS st l).1.cs.length ≤ st.cs.length + TV.partsL l) ∧ W64 (wordsS st l).2
  | [], st, h, hb1, hb2 => by
    rw [wordsS_nil]
    exact ⟨⟨h, by simp [TV.partsL], by simp [TV.partsL], by simp [TV.partsL]⟩, fun x hx => by cases hx⟩
  | t :: r, st, h, hb1, hb2 => by
    simp only [TV.partsL] at hb1 hb2 ⊢
    obtain ⟨⟨h1, h2, h3, h4⟩, h5⟩ := wordS_ok t st h (by omega) (by omega)
    obtain ⟨⟨g1, g2, g3, g4⟩, g5⟩ := wordsS_ok r (wordS st t).1 h1 (by omega) (by omega)
    rw [wordsS_cons]
    refine ⟨⟨g1, by simp only [List.length_cons]; omega, by simp only; omega, by simp only; omega⟩, fun x hx => ?_⟩
    rcases List.mem_cons.1 hx with rfl | hx
    · exact h5
    · exact g5 x hx
end
end
end Go.Proofs.Ytefnjplfemgibaa
