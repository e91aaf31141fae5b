/- Maps from names to functions (or any other values), made by a map literal: what lies there, what is found. No program is named here. -/
import Derived.Test.YtmpknhdfglbocaaMapA
namespace Go.Proofs.Ytmpknhdfglbocaa
open Go.RowKit Go.Maps Go.MapKept
set_option linter.unusedVariables false

def anyE : Value → Option (DataW Value × List MemPlace) := fun v => some (.held v, [])
abbrev FTab := List (List UInt8 × Value)
def tabD (l : FTab) : DataW Value := l.foldl (fun D q => D.put (.string q.1) (.held q.2)) (.map [])
def findT (l : FTab) (s : List UInt8) : Option Value := (l.reverse.find? (fun q => q.1 == s)).map (·.2)
theorem tabD_snoc (l : FTab) (q : List UInt8 × Value) : tabD (l ++ [q]) = (tabD l).put (.string q.1) (.held q.2) := by simp [tabD]
theorem findT_snoc (l : FTab) (q : List UInt8 × Value) (s : List UInt8) : findT (l ++ [q]) s = if q.1 = s then some q.2 else findT l s := by
  unfold findT
  rw [List.reverse_append]
  simp only [List.reverse_cons, List.reverse_nil, List.nil_append, List.singleton_append, List.find?_cons]
  by_cases h : q.1 = s
  · simp [h]
  · have : (q.1 == s) = false := by simp [h]
    rw [this, if_neg h]
theorem list_snoc {α : Type} {p : List α → Prop} (h0 : p []) (h1 : ∀ l x, p l → p (l ++ [x])) (l : List α) : p l := by
  have : ∀ r : List α, p r.reverse := by
    intro r
    induction r with
    | nil => exact h0
    | cons x r ih => rw [List.reverse_cons]; exact h1 _ x ih
  have := this l.reverse
  rwa [List.reverse_reverse] at this
theorem isMap_tab (l : FTab) : IsMap (tabD l) := by
  induction l using list_snoc with
  | h0 => exact ⟨[], rfl⟩
  | h1 l x ih => rw [tabD_snoc]; exact ih.put _ _
theorem tab_at (l : FTab) (s : List UInt8) (z : Value) : (tabD l).atKey (.string s) (.held z) = .held ((findT l s).getD z) ∧ has (tabD l) (.string s) = (findT l s).isSome := by
  induction l using list_snoc with
  | h0 => exact ⟨rfl, rfl⟩
  | h1 l x ih =>
    rw [tabD_snoc, findT_snoc]
    by_cases h : x.1 = s
    · rw [if_pos h, h]
      exact ⟨atKey_put_same (isMap_tab l) (show WideAt.IsKeyLit (.string s) from trivial) _ _, has_put_same (isMap_tab l) (show WideAt.IsKeyLit (.string s) from trivial) _⟩
    · rw [if_neg h]
      have hne : Lit.string s ≠ Lit.string x.1 := fun e => h (Lit.string.inj e).symm
      rw [atKey_put_other hne, has_put_other hne]
      exact ih

section
variable {P : Program} {w w' : World} {t k e : TypeId} {b : Nat} {l : FTab}
/-- The block b holds such a map. -/
def Tab (P : Program) (k : TypeId) (w : World) (b : Nat) (l : FTab) : Prop := w.ownsMap P k anyE b l.length (tabD l)
theorem tab_made (w : World) (P : Program) (k : TypeId) : Tab P k (w.alloc (.map #[] 0)) w.heap.size [] := World.ownsMap_made w P k anyE
theorem Tab.keep (h : Tab P k w b l) (hb : Below w.heap.size w w') : Tab P k w' b l := owns_keep h hb
theorem Tab.lt (h : Tab P k w b l) : b < w.heap.size := World.ownsMap.lt h
theorem tab_look (h : Tab P k w b l) (K : Keyed P k) (ht : P.underlying t = some (.map k e)) {z : Value} (hz : (zeroValue e).run P w = .ok z w) {s : List UInt8} (hkey : keyOf P k (.string ⟨s.toArray⟩) = some (.string s)) :
    (Instr.lookup t (.map (some b)) (.string ⟨s.toArray⟩) true).run P w = .ok (.tuple #[(findT l s).getD z, .bool (findT l s).isSome]) w := by
  obtain ⟨v, ps, hrun, hv⟩ := World.ownsMap.look_ok h K ht hz (zd := .held z) (zp := []) rfl hkey
  obtain ⟨h1, h2⟩ := tab_at l s z
  rw [h1] at hv
  unfold anyE at hv
  simp only [Option.some.injEq, Prod.mk.injEq, DataW.held.injEq] at hv
  rw [hrun, h2, hv.1]
theorem wpList_ins {ops : Array Oper} {rest : List Oper} {o : Oper} {a : Act} {Q : Exit → Act → World → Prop}
    (hg : o.guard = none) (m x v : Operand) (hop : o.op = Op.insert t m x v) (K : Keyed P k) (ht : P.underlying t = some (.map k e)) (b : Nat) (l : FTab)
    (hm : a.eval m = .map (some b)) (hown : Tab P k w b l) (hn : l.length < maxLen) (s : List UInt8) (val : Value) (hx : a.eval x = .string ⟨s.toArray⟩) (hv : a.eval v = val) (hkey : keyOf P k (.string ⟨s.toArray⟩) = some (.string s))
    (hK : ∀ w', Tab P k w' b (l ++ [(s, val)]) → w.grownBy w' (some b) → wpList P ops Q rest (a.put o.dst undef) w') :
    wpList P ops Q (o :: rest) a w := by
  refine wpList_plain hg fun K' hK' => ?_
  obtain ⟨w', hrun, r1, r2⟩ := World.ownsMap.update hown K ht hn hkey (val := val) (d := .held val) (ps := []) rfl
  unfold Oper.wp
  simp [execOp, hop, hm, hx, hv, hrun, Result.andThen]
  refine hK' _ _ (hK w' ?_ r2)
  unfold Tab
  rw [tabD_snoc, List.length_append]
  exact r1
/-- A box of the call's own. -/
theorem Tab.boxed (h : Tab P k w b l) {g ty : Nat} {cs : Array Value} (hB : Blk w g ty cs) : g ≠ b := owns_blk h hB
end
end Go.Proofs.Ytmpknhdfglbocaa
