/- Links (layer 18): maps of the call's own as lists of entries, by a key and a datum of each; the links' and the watches'. -/
import Derived.Test.YtpfikhamokjdjaaMapA
import Derived.Test.YtpfikhamokjdjaaProg
import Derived.WalkArith
import Derived.DeepKeys4
namespace Go.Proofs.Ytpfikhamokjdjaa
open Go.RowKit Go.Maps Go.WideMaps
set_option linter.unusedVariables false

/-! ### entries, by their key and datum -/
section
variable {α : Type} {key : α → Lit} {val : α → DataW Unit} {L : List α} {x : α} {k : Lit}
def datG (key : α → Lit) (val : α → DataW Unit) (L : List α) : DataW Unit := .map (L.map fun x => (key x, val x))
def insG (key : α → Lit) (x : α) : List α → List α
  | [] => [x]
  | y :: r => if (key x).before (key y) then x :: y :: r else y :: insG key x r
def hasG (key : α → Lit) (L : List α) (k : Lit) : Bool := L.any fun y => (key y).sameKey k
def delG (key : α → Lit) (L : List α) (k : Lit) : List α := L.filter fun y => !(key y).sameKey k
def getG (key : α → Lit) (L : List α) (k : Lit) : Option α := L.find? fun y => (key y).sameKey k
theorem insG_perm : (insG key x L).Perm (x :: L) := by
  induction L with
  | nil => exact List.Perm.refl _
  | cons y r ih =>
    unfold insG
    split
    · exact List.Perm.refl _
    · exact (List.Perm.cons y ih).trans (List.Perm.swap x y r)
theorem insG_len : (insG key x L).length = L.length + 1 := insG_perm.length_eq
theorem has_datG : Maps.has (datG key val L) k = hasG key L k := by
  unfold Maps.has datG hasG
  simp only [List.any_map]
  rfl
theorem at_datG (d : DataW Unit) : (datG key val L).atKey k d = ((getG key L k).map val).getD d := by
  unfold DataW.atKey datG getG
  simp only [List.find?_map]
  cases h : L.find? (fun y => (key y).sameKey k) with
  | none =>
    have : L.find? ((fun p : Lit × DataW Unit => p.1.sameKey k) ∘ fun x => (key x, val x)) = none := h
    rw [this]
    rfl
  | some y =>
    have : L.find? ((fun p : Lit × DataW Unit => p.1.sameKey k) ∘ fun x => (key x, val x)) = some y := h
    rw [this]
    rfl
theorem put_datG (h : hasG key L (key x) = false) : (datG key val L).put (key x) (val x) = datG key val (insG key x L) := by
  have h1 : (L.map fun y => (key y, val y)).filter (fun p => !p.1.sameKey (key x)) = L.map fun y => (key y, val y) := by
    refine List.filter_eq_self.2 fun q hq => ?_
    obtain ⟨y, hy, rfl⟩ := List.mem_map.1 hq
    unfold hasG at h
    rw [List.any_eq_false] at h
    simpa using h y hy
  unfold DataW.put datG
  simp only [h1]
  congr 1
  clear h1 h
  induction L with
  | nil => rfl
  | cons y r ih =>
    by_cases hb : (key x).before (key y) = true
    · simp [DataW.insert, insG, hb]
    · simp [DataW.insert, insG, hb, ih]
theorem del_datG : (datG key val L).del k = datG key val (delG key L k) := by
  unfold DataW.del datG delG
  simp only [List.filter_map]
  rfl
end

/-! ### links -/
abbrev PL := List (Int × Int)
def keyP (p : Int × Int) : Lit := .string (keyBytes [.int .i64 p.1, .int .i64 p.2])
def pv (p : Int × Int) : Value := .agg #[.int .i64 p.1, .int .i64 p.2]
def i64ok (z : Int) : Prop := -9223372036854775808 ≤ z ∧ z ≤ 9223372036854775807
theorem i64wf {z : Int} (h : i64ok z) : (Lit.int .i64 z).wf = true := by
  obtain ⟨h1, h2⟩ := h
  simp [Lit.wf, IntKind.min, IntKind.max, IntKind.signed, IntKind.bits]
  omega
theorem laidOutP : laidOutB Try.prog = true := by kernel_rfl
theorem kp : Keyed Try.prog 45 := Keyed.of_law (deep_law_laid laidOutP (m := 10) (by omega) (of_decide_eq_true (by kernel_rfl)) (by kernel_rfl) (by kernel_rfl))
theorem ki64 : Keyed Try.prog 2 := int_keyed Try.underlying2
theorem cellsP : Try.prog.cellsOf 45 = 2 := by kernel_rfl
theorem cellsI : Try.prog.cellsOf 2 = 1 := by kernel_rfl
theorem keyTypeP : Try.prog.keyType 45 = true := by kernel_rfl
theorem keyOfP {p : Int × Int} (h1 : i64ok p.1) (h2 : i64ok p.2) : keyOf Try.prog 45 (pv p) = some (keyP p) := by
  have w1 := i64wf h1
  have w2 := i64wf h2
  obtain ⟨m, hm⟩ : ∃ m, Try.prog.types.size = m + 1 := ⟨Try.prog.types.size - 1, by have : Try.prog.types.size ≠ 0 := of_decide_eq_true (by kernel_rfl); omega⟩
  have hI : ∀ z, (Lit.int .i64 z).wf = true → Try.prog.keyLits (m + 1) 2 [.int .i64 z] = some [.int .i64 z] := fun z hz => by
    unfold Program.keyLits
    rw [Try.underlying2]
    simp only [hz, and_self, if_true]
  have hF : (pv p).formed Try.prog 45 = true := by
    unfold pv
    simp [Value.formed, Try.underlying45, cellsP]
  have hL : Try.prog.keyLits (Try.prog.types.size + 1) 45 (pv p).cells.toList = some [.int .i64 p.1, .int .i64 p.2] := by
    rw [hm]
    unfold Program.keyLits
    rw [Try.underlying45]
    simp only [pv, Value.cells, cellsP, cellsI, List.length_cons, List.length_nil, if_true]
    have e1 := hI p.1 w1
    have e2 := hI p.2 w2
    simp [List.range, List.range.loop, e1, e2]
  unfold keyOf
  rw [Try.underlying45]
  simp only [keyTypeP, hF, Bool.and_self, if_true, hL, Option.map_some]
  rfl
theorem keyP_inj {p q : Int × Int} (h1 : i64ok p.1) (h2 : i64ok p.2) (h3 : i64ok q.1) (h4 : i64ok q.2) (h : keyP p = keyP q) : p = q := by
  have e := kp.inj (keyOfP h1 h2) (by rw [h]; exact keyOfP h3 h4)
  unfold pv at e
  simp only [Value.agg.injEq, Array.mk.injEq, List.cons.injEq, Value.int.injEq, true_and, and_true] at e
  exact Prod.ext e.1 e.2
theorem keyI64 {z : Int} (h : i64ok z) : keyOf Try.prog 2 (.int .i64 z) = some (.int .i64 z) := keyOf_int_mk Try.underlying2 (i64wf h)
/-- n bounds how many entries there have been. -/
def PM (W : World) (b n : Nat) (L : PL) : Prop := W.ownsMap (H := Unit) Try.prog 45 (plainElem Try.prog 4) b n (datG keyP (fun _ => .lit (.bool true)) L)

/-! ### watches -/
structure WV where
  ref : Int
  fr : Int
  to : Int
deriving DecidableEq
abbrev WL := List WV
def keyW (x : WV) : Lit := .int .i64 x.ref
def wv (x : WV) : Value := .agg #[.int .i64 x.ref, .int .i64 x.fr, .int .i64 x.to]
def wD (x : WV) : DataW Unit := .map [(.int .i64 x.ref, .lit (.int .i64 x.fr)), (.int .i64 0, .lit (.int .i64 x.to))]
def wR (v : Value) : Option (DataW Unit × List MemPlace) := match v with
  | .agg a => (match a.toList with
    | [.int .i64 r, .int .i64 f, .int .i64 t] => some (wD ⟨r, f, t⟩, [])
    | _ => none)
  | _ => none
theorem wR_mk (x : WV) : wR (wv x) = some (wD x, []) := rfl
theorem wR_inv {v : Value} {x : WV} {ps : List MemPlace} (h : wR v = some (wD x, ps)) : v = wv x ∧ ps = [] := by
  unfold wR at h
  split at h
  · rename_i a
    split at h
    · rename_i r f t hl
      simp only [Option.some.injEq, Prod.mk.injEq, wD, DataW.map.injEq, List.cons.injEq, Lit.int.injEq, true_and, DataW.lit.injEq, and_true] at h
      obtain ⟨⟨⟨h1, h2⟩, h3⟩, h4⟩ := h
      refine ⟨?_, h4.symm⟩
      obtain ⟨l⟩ := a
      simp only at hl
      subst hl
      unfold wv
      rw [h1, h2, h3]
    · cases h
  · cases h
def WM (W : World) (b n : Nat) (L : WL) : Prop := W.ownsMap (H := Unit) Try.prog 2 wR b n (datG keyW wD L)

/-! ### what the operations do -/
section
variable {W V : World} {b n : Nat} {L : PL} {K : WL}
theorem zb (w : World) : (zeroValue 4).run Try.prog w = .ok (.bool false) w := by kernel_rfl
theorem zw (w : World) : (zeroValue 33).run Try.prog w = .ok (wv ⟨0, 0, 0⟩) w := by kernel_rfl
theorem grown_turned {w w' : World} (h : w.mapTurned w' b) : w.grownBy w' (some b) := by
  obtain ⟨es, clock, es', clock', hb, rfl⟩ := h
  exact ⟨rfl, rfl, rfl, by simp [Go.ChangeMaps.setBlock], fun i _ hi => Go.ChangeMaps.heap_setBlock_other hb _ (fun e9 => hi (by rw [e9]))⟩
def hasP (L : PL) (p : Int × Int) : Bool := hasG keyP L (keyP p)
theorem bool_inv {P : Program} {e : TypeId} (he : P.underlying e = some .bool) {v : Value} {c : Bool} {ps : List MemPlace} (h : plainElem (H := Unit) P e v = some (.lit (.bool c), ps)) : v = .bool c := by
  unfold plainElem at h
  rw [he] at h
  cases v <;> simp at h ⊢
  exact h.1
theorem getG_some {α : Type} {key : α → Lit} {L : List α} {k : Lit} : (getG key L k).isSome = hasG key L k := by
  unfold getG hasG
  induction L with
  | nil => rfl
  | cons y r ih =>
    rw [List.find?_cons, List.any_cons]
    cases (key y).sameKey k with
    | true => rfl
    | false => simpa using ih
theorem PM.look (ho : PM W b n L) {p : Int × Int} (h1 : i64ok p.1) (h2 : i64ok p.2) : (Instr.lookup 53 (.map (some b)) (pv p) false).run Try.prog W = .ok (.bool (hasP L p)) W := by
  obtain ⟨v, ps, hrun, hv⟩ := World.ownsMap.lookup ho kp Try.underlying53 (zb W) (plainElem_bool Try.underlying4 false) (keyOfP h1 h2)
  rw [at_datG] at hv
  have hs := getG_some (key := keyP) (L := L) (k := keyP p)
  cases hg : getG keyP L (keyP p) with
  | none =>
    rw [hg] at hv hs
    rw [hrun, bool_inv Try.underlying4 hv]
    unfold hasP
    rw [← hs]
    rfl
  | some y =>
    rw [hg] at hv hs
    rw [hrun, bool_inv Try.underlying4 hv]
    unfold hasP
    rw [← hs]
    rfl
theorem PM.add (ho : PM W b n L) (hl : n ≤ 99999) {p : Int × Int} (h1 : i64ok p.1) (h2 : i64ok p.2) (hno : hasP L p = false) :
    ∃ w', (Instr.mapUpdate 53 (.map (some b)) (pv p) (.bool true)).run Try.prog W = .ok () w' ∧ W.grownBy w' (some b) ∧ PM w' b (n + 1) (insG keyP p L) := by
  obtain ⟨w', hrun, ho', ht⟩ := World.ownsMap.store ho kp Try.underlying53 (by unfold maxLen; omega) (keyOfP h1 h2) (plainElem_bool Try.underlying4 true)
  have hp := put_datG (key := keyP) (val := fun _ => DataW.lit (H := Unit) (.bool true)) (L := L) (x := p) hno
  rw [hp] at ho'
  exact ⟨w', hrun, grown_turned ht, ho'⟩
theorem PM.del (ho : PM W b n L) {p : Int × Int} (h1 : i64ok p.1) (h2 : i64ok p.2) (ty : TypeId) :
    ∃ w', (Builtin.delete_ #[53, 45] ty #[.map (some b), pv p]).run Try.prog W = .ok (.tuple #[]) w' ∧ W.grownBy w' (some b) ∧ PM w' b n (delG keyP L (keyP p)) := by
  obtain ⟨w', hrun, ho', ht⟩ := World.ownsMap.drop ho kp Try.underlying53 (keyOfP h1 h2) ty
  rw [del_datG] at ho'
  exact ⟨w', hrun, grown_turned ht, ho'⟩
theorem PM.grown (ho : PM W b n L) {row : Option Nat} (hg : W.grownBy V row) (hne : some b ≠ row) : PM V b n L := World.ownsMap.kept ho hg hne
/-! watches -/
def getW (K : WL) (r : Int) : Option WV := getG keyW K (.int .i64 r)
theorem WM.look (ho : WM W b n K) {r : Int} (h1 : i64ok r) : (Instr.lookup 54 (.map (some b)) (.int .i64 r) true).run Try.prog W = .ok (.tuple #[wv ((getW K r).getD ⟨0, 0, 0⟩), .bool (getW K r).isSome]) W := by
  obtain ⟨v, ps, hrun, hv⟩ := World.ownsMap.look_ok ho ki64 Try.underlying54 (zw W) (wR_mk ⟨0, 0, 0⟩) (keyI64 h1)
  rw [at_datG] at hv
  rw [hrun, has_datG, ← getG_some]
  unfold getW
  cases hg : getG keyW K (.int .i64 r) with
  | none => rw [hg] at hv; rw [(wR_inv (x := ⟨0, 0, 0⟩) hv).1]; rfl
  | some y => rw [hg] at hv; rw [(wR_inv (x := y) hv).1]; rfl
theorem WM.add (ho : WM W b n K) (hl : n ≤ 99999) {x : WV} (h1 : i64ok x.ref) (hno : getW K x.ref = none) :
    ∃ w', (Instr.mapUpdate 54 (.map (some b)) (.int .i64 x.ref) (wv x)).run Try.prog W = .ok () w' ∧ W.grownBy w' (some b) ∧ WM w' b (n + 1) (insG keyW x K) := by
  obtain ⟨w', hrun, ho', ht⟩ := World.ownsMap.store ho ki64 Try.underlying54 (by unfold maxLen; omega) (keyI64 h1) (wR_mk x)
  have hno2 : hasG keyW K (keyW x) = false := by rw [← getG_some]; have h9 : getG keyW K (keyW x) = none := hno; rw [h9]; rfl
  have hp := put_datG (key := keyW) (val := wD) (L := K) (x := x) hno2
  have ho2 : w'.ownsMap (H := Unit) Try.prog 2 wR b (n + 1) ((datG keyW wD K).put (keyW x) (wD x)) := ho'
  rw [hp] at ho2
  exact ⟨w', hrun, grown_turned ht, ho2⟩
theorem WM.del (ho : WM W b n K) {r : Int} (h1 : i64ok r) (ty : TypeId) :
    ∃ w', (Builtin.delete_ #[54, 2] ty #[.map (some b), .int .i64 r]).run Try.prog W = .ok (.tuple #[]) w' ∧ W.grownBy w' (some b) ∧ WM w' b n (delG keyW K (.int .i64 r)) := by
  obtain ⟨w', hrun, ho', ht⟩ := World.ownsMap.drop ho ki64 Try.underlying54 (keyI64 h1) ty
  rw [del_datG] at ho'
  exact ⟨w', hrun, grown_turned ht, ho'⟩
theorem WM.grown (ho : WM W b n K) {row : Option Nat} (hg : W.grownBy V row) (hne : some b ≠ row) : WM V b n K := World.ownsMap.kept ho hg hne
end
end Go.Proofs.Ytpfikhamokjdjaa
