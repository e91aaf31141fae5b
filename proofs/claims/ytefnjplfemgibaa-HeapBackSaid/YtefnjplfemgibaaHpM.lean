/- Maps from bytes to integers, of the call's own (layer 9): the plain list by rising keys, its data, the lookups and the stores. Written by hpgenm.py. -/
import Derived.Test.YtefnjplfemgibaaMapA
import Derived.Test.YtefnjplfemgibaaProg
import Derived.WalkArith
namespace Go.Proofs.Ytefnjplfemgibaa
open Go.RowKit Go.Maps Go.WideMaps
set_option linter.unusedVariables false

/-- Entries by rising keys. -/
abbrev SL := List (List UInt8 × Int)
def sget (L : SL) (s : List UInt8) : Option Int := (L.find? (fun q => q.1 == s)).map (·.2)
def sins (x : List UInt8 × Int) : SL → SL
  | [] => [x]
  | y :: r => if bytesBefore x.1 y.1 then x :: y :: r else y :: sins x r
def sdat (κ : IntKind) (L : SL) : DataW Unit := .map (L.map fun q => (.string q.1, .lit (.int κ q.2)))
section
variable {L : SL} {κ : IntKind}
theorem sget_sins (x : List UInt8 × Int) (L : SL) (hx : sget L x.1 = none) (s : List UInt8) : sget (sins x L) s = if x.1 = s then some x.2 else sget L s := by
  unfold sget at *
  induction L with
  | nil =>
    by_cases h : x.1 = s
    · simp [sins, h]
    · simp [sins, h, beq_eq_false_iff_ne.2 h]
  | cons a r ih =>
    have h2 : ¬ a.1 = x.1 := by
      intro h
      simp [h] at hx
    have hr : Option.map (fun q : List UInt8 × Int => q.2) (List.find? (fun q => q.1 == x.1) r) = none := by
      rw [List.find?_cons, beq_eq_false_iff_ne.2 h2] at hx
      exact hx
    unfold sins
    split
    · by_cases h : x.1 = s
      · simp [h]
      · rw [List.find?_cons, beq_eq_false_iff_ne.2 h, if_neg h]
    · by_cases ha : a.1 = s
      · have h : ¬ x.1 = s := fun h => h2 (ha.trans h.symm)
        rw [if_neg h, List.find?_cons, List.find?_cons, ha]
        simp
      · rw [List.find?_cons, List.find?_cons, beq_eq_false_iff_ne.2 ha]
        exact ih hr
theorem slen_sins (x : List UInt8 × Int) (L : SL) : (sins x L).length = L.length + 1 := by
  induction L with
  | nil => rfl
  | cons a r ih =>
    unfold sins
    split
    · rfl
    · simp [ih]
theorem has_sdat (L : SL) (s : List UInt8) : Maps.has (sdat κ L) (.string s) = (sget L s).isSome := by
  unfold Maps.has sdat sget
  induction L with
  | nil => rfl
  | cons q r ih =>
    simp only [List.map_cons, List.any_cons, List.find?_cons, Lit.sameKey] at ih ⊢
    cases hq : (q.1 == s) with
    | true => simp
    | false => simpa using ih
theorem at_sdat (L : SL) (s : List UInt8) : (sdat κ L).atKey (.string s) (.lit (.int κ 0)) = .lit (.int κ ((sget L s).getD 0)) := by
  unfold DataW.atKey sdat sget
  induction L with
  | nil => rfl
  | cons q r ih =>
    simp only [List.map_cons, List.find?_cons, Lit.sameKey] at ih ⊢
    cases hq : (q.1 == s) with
    | true => simp
    | false => simpa using ih
theorem put_sdat {s : List UInt8} (h : sget L s = none) (p : Int) : (sdat κ L).put (.string s) (.lit (.int κ p)) = sdat κ (sins (s, p) L) := by
  have h1 : (L.map fun q => ((Lit.string q.1, DataW.lit (H := Unit) (.int κ q.2)) : Lit × DataW Unit)).filter (fun p => !p.1.sameKey (.string s)) = L.map fun q => ((Lit.string q.1, DataW.lit (.int κ q.2)) : Lit × DataW Unit) := by
    unfold sget at h
    rw [Option.map_eq_none_iff, List.find?_eq_none] at h
    refine List.filter_eq_self.2 fun q hq => ?_
    obtain ⟨x, hx, rfl⟩ := List.mem_map.1 hq
    simpa [Lit.sameKey] using h x hx
  unfold DataW.put sdat
  simp only [h1]
  congr 1
  clear h1 h
  induction L with
  | nil => rfl
  | cons q r ih =>
    by_cases hb : bytesBefore s q.1 = true
    · simp [DataW.insert, sins, Lit.before, hb]
    · simp [DataW.insert, sins, Lit.before, hb, ih]
end
theorem sks : Keyed Try.prog 9 := string_keyed Try.underlying9
theorem skeyS {s : List UInt8} (h : s.length ≤ maxLen) : keyOf Try.prog 9 (.string ⟨s.toArray⟩) = some (.string s) := by
  have := keyOf_string_mk Try.underlying9 (s := ⟨s.toArray⟩) (by simpa [ByteArray.size] using h)
  simpa using this

theorem zC (w : World) : (zeroValue 34).run Try.prog w = .ok (.int .u64 0) w := by kernel_rfl
/-- A map[string]uint64 of the call's own, in memory. -/
def SMC (W : World) (b : Nat) (L : SL) : Prop := W.ownsMap (H := Unit) Try.prog 9 (plainElem Try.prog 34) b L.length (sdat .u64 L)
section
variable {W W' : World} {b : Nat} {L : SL}
theorem SMC.look (h : SMC W b L) {s : List UInt8} (hs : s.length ≤ maxLen) :
    (Instr.lookup 67 (.map (some b)) (.string ⟨s.toArray⟩) true).run Try.prog W = .ok (.tuple #[.int .u64 ((sget L s).getD 0), .bool (sget L s).isSome]) W := by
  obtain ⟨v, ps, hrun, hv⟩ := World.ownsMap.look_ok h sks Try.underlying67 (zC W) (plainElem_int Try.underlying34 (by decide)) (skeyS hs)
  rw [at_sdat] at hv
  obtain ⟨c, rfl, hc, _⟩ := plainElem_int_inv Try.underlying34 hv
  simp only [Prod.mk.injEq, DataW.lit.injEq, Lit.int.injEq, true_and] at hc
  rw [hrun, has_sdat, hc.1]
theorem SMC.store (h : SMC W b L) {s : List UInt8} (hs : s.length ≤ maxLen) (hn : sget L s = none) (hL : L.length < maxLen) {p : Int} (hp : (Lit.int .u64 p).wf = true) :
    ∃ w', (Instr.mapUpdate 67 (.map (some b)) (.string ⟨s.toArray⟩) (.int .u64 p)).run Try.prog W = .ok () w' ∧ SMC w' b (sins (s, p) L) ∧ W.grownBy w' (some b) := by
  obtain ⟨wu, h1, h2, h3⟩ := World.ownsMap.store h sks Try.underlying67 hL (skeyS hs) (plainElem_int Try.underlying34 hp)
  refine ⟨wu, h1, ?_, h3.grown⟩
  unfold SMC
  rw [slen_sins, ← put_sdat hn]
  exact h2
theorem SMC.lt (h : SMC W b L) : b < W.heap.size := World.ownsMap.lt h
theorem SMC.fr {F : Nat → Prop} (h : SMC W b L) (hf : Fr F W W') (hn : ¬ F b) : SMC W' b L := owns_fr h hf hn
theorem SMC.keep (h : SMC W b L) (hb : Below W.heap.size W W') : SMC W' b L := owns_keep h hb
end

theorem zA (w : World) : (zeroValue 3).run Try.prog w = .ok (.int .i64 0) w := by kernel_rfl
/-- A map[string]int of the call's own, in memory. -/
def SMA (W : World) (b : Nat) (L : SL) : Prop := W.ownsMap (H := Unit) Try.prog 9 (plainElem Try.prog 3) b L.length (sdat .i64 L)
section
variable {W W' : World} {b : Nat} {L : SL}
theorem SMA.look (h : SMA W b L) {s : List UInt8} (hs : s.length ≤ maxLen) :
    (Instr.lookup 68 (.map (some b)) (.string ⟨s.toArray⟩) true).run Try.prog W = .ok (.tuple #[.int .i64 ((sget L s).getD 0), .bool (sget L s).isSome]) W := by
  obtain ⟨v, ps, hrun, hv⟩ := World.ownsMap.look_ok h sks Try.underlying68 (zA W) (plainElem_int Try.underlying3 (by decide)) (skeyS hs)
  rw [at_sdat] at hv
  obtain ⟨c, rfl, hc, _⟩ := plainElem_int_inv Try.underlying3 hv
  simp only [Prod.mk.injEq, DataW.lit.injEq, Lit.int.injEq, true_and] at hc
  rw [hrun, has_sdat, hc.1]
theorem SMA.store (h : SMA W b L) {s : List UInt8} (hs : s.length ≤ maxLen) (hn : sget L s = none) (hL : L.length < maxLen) {p : Int} (hp : (Lit.int .i64 p).wf = true) :
    ∃ w', (Instr.mapUpdate 68 (.map (some b)) (.string ⟨s.toArray⟩) (.int .i64 p)).run Try.prog W = .ok () w' ∧ SMA w' b (sins (s, p) L) ∧ W.grownBy w' (some b) := by
  obtain ⟨wu, h1, h2, h3⟩ := World.ownsMap.store h sks Try.underlying68 hL (skeyS hs) (plainElem_int Try.underlying3 hp)
  refine ⟨wu, h1, ?_, h3.grown⟩
  unfold SMA
  rw [slen_sins, ← put_sdat hn]
  exact h2
theorem SMA.lt (h : SMA W b L) : b < W.heap.size := World.ownsMap.lt h
theorem SMA.fr {F : Nat → Prop} (h : SMA W b L) (hf : Fr F W W') (hn : ¬ F b) : SMA W' b L := owns_fr h hf hn
theorem SMA.keep (h : SMA W b L) (hb : Below W.heap.size W W') : SMA W' b L := owns_keep h hb
end

end Go.Proofs.Ytefnjplfemgibaa
