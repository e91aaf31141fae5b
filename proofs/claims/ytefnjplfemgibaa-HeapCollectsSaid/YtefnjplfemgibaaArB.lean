/- Maps from names to functions (or any other values), made by a map literal: what lies there, what is found. No program is named here. Arith (layer 14): terms as values; what makes terms. Arith (layer 14): slices.Clone of terms, Tuple; Elements; what compares. -/
import Derived.Test.YtefnjplfemgibaaMapA
import Derived.Test.YtefnjplfemgibaaTermY
import Derived.Test.YtefnjplfemgibaaShelf
namespace Go.Proofs.Ytefnjplfemgibaa
section
open Go.RowKit Go.Maps Go.MapKept
set_option linter.unusedVariables false

def anyE : Value → Option (DataW Value × List MemPlace) := fun v => some (.held v, [])
abbrev FTab := List (List UInt8 × Value)
def tabD (l : FTab) : DataW Value := l.foldl (fun D q => D.put (.string q.1) (.held q.2)) (.map [])
def findT (l : FTab) (s : List UInt8) : Option Value := (l.reverse.find? (fun q => q.1 == s)).map (·.2)
theorem tabD_snoc (l : FTab) (q : List UInt8 × Value) : tabD (l ++ [q]) = (tabD l).put (.string q.1) (.held q.2) := by simp [tabD]
theorem findT_snoc (l : FTab) (q : List UInt8 × Value) (s : List UInt8) : findT (l ++ [q]) s = if q.1 = s then some q.2 else findT l s := by
  unfold findT
  rw [List.reverse_append]
  simp only [List.reverse_cons, List.reverse_nil, List.nil_append, List.singleton_append, List.find?_cons]
  by_cases h : q.1 = s
  · simp [h]
  · have : (q.1 == s) = false := by simp [h]
    rw [this, if_neg h]
theorem list_snoc {α : Type} {p : List α → Prop} (h0 : p []) (h1 : ∀ l x, p l → p (l ++ [x])) (l : List α) : p l := by
  have : ∀ r : List α, p r.reverse := by
    intro r
    induction r with
    | nil => exact h0
    | cons x r ih => rw [List.reverse_cons]; exact h1 _ x ih
  have := this l.reverse
  rwa [List.reverse_reverse] at this
theorem isMap_tab (l : FTab) : IsMap (tabD l) := by
  induction l using list_snoc with
  | h0 => exact ⟨[], rfl⟩
  | h1 l x ih => rw [tabD_snoc]; exact ih.put _ _
theorem tab_at (l : FTab) (s : List UInt8) (z : Value) : (tabD l).atKey (.string s) (.held z) = .held ((findT l s).getD z) ∧ has (tabD l) (.string s) = (findT l s).isSome := by
  induction l using list_snoc with
  | h0 => exact ⟨rfl, rfl⟩
  | h1 l x ih =>
    rw [tabD_snoc, findT_snoc]
    by_cases h : x.1 = s
    · rw [if_pos h, h]
      exact ⟨atKey_put_same (isMap_tab l) (show WideAt.IsKeyLit (.string s) from trivial) _ _, has_put_same (isMap_tab l) (show WideAt.IsKeyLit (.string s) from trivial) _⟩
    · rw [if_neg h]
      have hne : Lit.string s ≠ Lit.string x.1 := fun e => h (Lit.string.inj e).symm
      rw [atKey_put_other hne, has_put_other hne]
      exact ih

section
variable {P : Program} {w w' : World} {t k e : TypeId} {b : Nat} {l : FTab}
/-- The block b holds such a map. -/
def Tab (P : Program) (k : TypeId) (w : World) (b : Nat) (l : FTab) : Prop := w.ownsMap P k anyE b l.length (tabD l)
theorem tab_made (w : World) (P : Program) (k : TypeId) : Tab P k (w.alloc (.map #[] 0)) w.heap.size [] := World.ownsMap_made w P k anyE
theorem Tab.keep (h : Tab P k w b l) (hb : Below w.heap.size w w') : Tab P k w' b l := owns_keep h hb
theorem Tab.lt (h : Tab P k w b l) : b < w.heap.size := World.ownsMap.lt h
theorem tab_look (h : Tab P k w b l) (K : Keyed P k) (ht : P.underlying t = some (.map k e)) {z : Value} (hz : (zeroValue e).run P w = .ok z w) {s : List UInt8} (hkey : keyOf P k (.string ⟨s.toArray⟩) = some (.string s)) :
    (Instr.lookup t (.map (some b)) (.string ⟨s.toArray⟩) true).run P w = .ok (.tuple #[(findT l s).getD z, .bool (findT l s).isSome]) w := by
  obtain ⟨v, ps, hrun, hv⟩ := World.ownsMap.look_ok h K ht hz (zd := .held z) (zp := []) rfl hkey
  obtain ⟨h1, h2⟩ := tab_at l s z
  rw [h1] at hv
  unfold anyE at hv
  simp only [Option.some.injEq, Prod.mk.injEq, DataW.held.injEq] at hv
  rw [hrun, h2, hv.1]
theorem wpList_ins {ops : Array Oper} {rest : List Oper} {o : Oper} {a : Act} {Q : Exit → Act → World → Prop}
    (hg : o.guard = none) (m x v : Operand) (hop : o.op = Op.insert t m x v) (K : Keyed P k) (ht : P.underlying t = some (.map k e)) (b : Nat) (l : FTab)
    (hm : a.eval m = .map (some b)) (hown : Tab P k w b l) (hn : l.length < maxLen) (s : List UInt8) (val : Value) (hx : a.eval x = .string ⟨s.toArray⟩) (hv : a.eval v = val) (hkey : keyOf P k (.string ⟨s.toArray⟩) = some (.string s))
    (hK : ∀ w', Tab P k w' b (l ++ [(s, val)]) → w.grownBy w' (some b) → wpList P ops Q rest (a.put o.dst undef) w') :
    wpList P ops Q (o :: rest) a w := by
  refine wpList_plain hg fun K' hK' => ?_
  obtain ⟨w', hrun, r1, r2⟩ := World.ownsMap.update hown K ht hn hkey (val := val) (d := .held val) (ps := []) rfl
  unfold Oper.wp
  simp [execOp, hop, hm, hx, hv, hrun, Result.andThen]
  refine hK' _ _ (hK w' ?_ r2)
  unfold Tab
  rw [tabD_snoc, List.length_append]
  exact r1
/-- A box of the call's own. -/
theorem Tab.boxed (h : Tab P k w b l) {g ty : Nat} {cs : Array Value} (hB : Blk w g ty cs) : g ≠ b := owns_blk h hB
end
end
section
open Go.RowKit
set_option linter.unusedVariables false

/-- A value is a term. -/
def TVal (V : World) (u : Value) (t : TV) : Prop := ∃ A n c, u = .agg #[.int .i64 t.kind, .int .i64 t.int, .string ⟨t.name.toArray⟩, .slice A n c] ∧ t.items.length = n ∧ RdM V A c t.items
open Classical in
/-- A world without the blocks X (boxes of callers). -/
noncomputable def ers (X : Nat → Prop) (V : World) : World := { V with heap := V.heap.mapIdx fun i o => if X i then .map #[] 0 else o }
theorem ers_cell (X : Nat → Prop) (V : World) (p : Addr) {v : Value} : (ers X V).cell? p = some v ↔ ¬ X p.block ∧ V.cell? p = some v := by
  unfold World.cell? ers
  simp only [Array.getElem?_mapIdx]
  by_cases h : X p.block
  · cases ho : V.heap[p.block]? with
    | none => simp [h]
    | some o => simp [h]
  · cases ho : V.heap[p.block]? with
    | none => simp
    | some o => simp [h]
/-- .. a term whatever becomes of the blocks X. -/
def TEx (X : Nat → Prop) (V : World) (u : Value) (t : TV) : Prop := TVal (ers X V) u t
/-- What a function that makes one term leaves. -/
def R1 (X : Nat → Prop) (W : World) (t : TV) (e : Ending) (w' : World) : Prop := ∃ u, e = .returned u ∧ TEx X w' u t ∧ Below W.heap.size W w'
/-- .. one that makes a term or says why not. -/
def R2 (X : Nat → Prop) (W : World) (r : TV × List UInt8) (e : Ending) (w' : World) : Prop := ∃ u, e = .returned (.tuple #[u, .string ⟨r.2.toArray⟩]) ∧ TEx X w' u r.1 ∧ Below W.heap.size W w'
def tZ : TV := .mk 0 0 [] []
def tI (n : Int) : TV := .mk 1 n [] []
def tA (s : List UInt8) : TV := .mk 2 0 s []
def tN : TV := .mk 7 0 [] []
def tC (h t : TV) : TV := .mk 8 0 [] [h, t]
def tT (l : List TV) : TV := .mk 6 0 [] l
section
variable {W V V' : World} {u u' : Value} {t t' : TV}
theorem rdM_nil (V : World) (A : Option Addr) (c : Nat) (hc : c ≤ 9223372036854775807) : RdM V A c [] := ⟨Nat.zero_le _, hc, .inl rfl⟩
theorem TVal.below (h : TVal V u t) (hb : Below V.heap.size V V') : TVal V' u t := by
  obtain ⟨A, n, c, h1, h2, h3⟩ := h
  exact ⟨A, n, c, h1, h2, h3.below hb⟩
theorem TVal.len (h : TVal V u t) : t.items.length ≤ 9223372036854775807 := by
  obtain ⟨A, n, c, h1, h2, h3⟩ := h
  exact Nat.le_trans h3.1 h3.2.1
theorem tval_z (V : World) : TVal V (.agg #[.int .i64 0, .int .i64 0, .string ⟨#[]⟩, .slice none 0 0]) tZ := ⟨none, 0, 0, rfl, rfl, rdM_nil _ _ _ (by omega)⟩
theorem tval_i (V : World) (n : Int) : TVal V (.agg #[.int .i64 1, .int .i64 n, .string ⟨#[]⟩, .slice none 0 0]) (tI n) := ⟨none, 0, 0, rfl, rfl, rdM_nil _ _ _ (by omega)⟩
theorem tval_a (V : World) (s : List UInt8) : TVal V (.agg #[.int .i64 2, .int .i64 0, .string ⟨s.toArray⟩, .slice none 0 0]) (tA s) := ⟨none, 0, 0, rfl, rfl, rdM_nil _ _ _ (by omega)⟩
theorem tval_n (V : World) : TVal V (.agg #[.int .i64 7, .int .i64 0, .string ⟨#[]⟩, .slice none 0 0]) tN := ⟨none, 0, 0, rfl, rfl, rdM_nil _ _ _ (by omega)⟩
theorem TVal.kept (h : TVal V u t) (hk : Kept V V') : TVal V' u t := by
  obtain ⟨A, n, c, h1, h2, h3⟩ := h
  exact ⟨A, n, c, h1, h2, h3.kept hk⟩
theorem kept_of (h : ∀ p v, V.cell? p = some v → V'.cell? p = some v) : Kept V V' := fun p hp => by
  obtain ⟨v, hv⟩ := Option.isSome_iff_exists.1 hp
  rw [h p v hv, hv]
theorem kept_ers (X : Nat → Prop) (V : World) : Kept (ers X V) V := kept_of fun p v h => ((ers_cell X V p).1 h).2
theorem kept_step {X Y Z : Nat → Prop} (hf : Fr Y V V') (hY : ∀ k, k < V.heap.size → Y k → X k) (hZ : ∀ k, k < V.heap.size → Z k → X k) : Kept (ers X V) (ers Z V') := kept_of fun p v h => by
  obtain ⟨h1, h2⟩ := (ers_cell X V p).1 h
  have hlt := World.block_lt_of_cell? V p h2
  exact (ers_cell Z V' p).2 ⟨fun h9 => h1 (hZ _ hlt h9), (World.cell?_of_block (hf.block _ hlt fun h9 => h1 (hY _ hlt h9))).trans h2⟩
theorem TEx.val {X : Nat → Prop} (h : TEx X V u t) : TVal V u t := TVal.kept h (kept_ers X V)
theorem TEx.step {X Y : Nat → Prop} (h : TEx X V u t) (hf : Fr Y V V') (hY : ∀ k, k < V.heap.size → Y k → X k) : TEx X V' u t := TVal.kept h (kept_step hf hY (fun _ _ h => h))
theorem TEx.below {X : Nat → Prop} (h : TEx X V u t) (hb : Below V.heap.size V V') : TEx X V' u t := h.step (Fr.of_below hb X) (fun _ _ h => h)
theorem TEx.weak {X Y : Nat → Prop} (h : TEx X V u t) (hY : ∀ k, k < V.heap.size → Y k → X k) : TEx Y V u t := TVal.kept h (kept_step (Fr.refl X V) (fun _ _ h => h) hY)
theorem TEx.form {X : Nat → Prop} (h : TEx X V u t) : ∃ A n c, u = .agg #[.int .i64 t.kind, .int .i64 t.int, .string ⟨t.name.toArray⟩, .slice A n c] ∧ t.items.length = n := by
  obtain ⟨A, n, c, h1, h2, h3⟩ := h.val
  exact ⟨A, n, c, h1, h2⟩
/-- Terms that came in. -/
theorem kept_old {w0 : World} {X : Nat → Prop} (hW : Below w0.heap.size w0 V) (hX : ∀ k, X k → w0.heap.size ≤ k) : Kept w0 (ers X V) := kept_of fun p v h => by
  have hlt := World.block_lt_of_cell? w0 p h
  exact (ers_cell X V p).2 ⟨fun h9 => by have := hX _ h9; omega, (hW.cell hlt).trans h⟩
theorem tex_old {w0 : World} {X : Nat → Prop} (hW : Below w0.heap.size w0 V) (h : TVal w0 u t) (hX : ∀ k, X k → w0.heap.size ≤ k) : TEx X V u t := h.kept (kept_old hW hX)
theorem tex_z (X : Nat → Prop) (V : World) : TEx X V (.agg #[.int .i64 0, .int .i64 0, .string ⟨#[]⟩, .slice none 0 0]) tZ := tval_z _
theorem tex_i (X : Nat → Prop) (V : World) (n : Int) : TEx X V (.agg #[.int .i64 1, .int .i64 n, .string ⟨#[]⟩, .slice none 0 0]) (tI n) := tval_i _ n
theorem tex_a (X : Nat → Prop) (V : World) (s : List UInt8) : TEx X V (.agg #[.int .i64 2, .int .i64 0, .string ⟨s.toArray⟩, .slice none 0 0]) (tA s) := tval_a _ s
theorem tex_n (X : Nat → Prop) (V : World) : TEx X V (.agg #[.int .i64 7, .int .i64 0, .string ⟨#[]⟩, .slice none 0 0]) tN := tval_n _
/-- A term lies where its value was laid. -/
theorem tval_at {b o : Nat} {k n : Int} {s : List UInt8} {A : Option Addr} {m c : Nat} (hu : TVal V (.agg #[.int .i64 k, .int .i64 n, .string ⟨s.toArray⟩, .slice A m c]) t)
    (h0 : V.cell? ⟨b, o, none⟩ = some (.int .i64 k)) (h1 : V.cell? ⟨b, o + 1, none⟩ = some (.int .i64 n)) (h2 : V.cell? ⟨b, o + 2, none⟩ = some (.string ⟨s.toArray⟩)) (h3 : V.cell? ⟨b, o + 3, none⟩ = some (.slice A m c)) : t.At V b o := by
  obtain ⟨A', n', c', e, hn, hR⟩ := hu
  simp only [Value.agg.injEq, Array.mk.injEq, List.cons.injEq, Value.int.injEq, Value.slice.injEq, Value.string.injEq, ByteArray.mk.injEq, true_and, and_true] at e
  obtain ⟨rfl, rfl, hs, rfl, rfl, rfl⟩ := e
  rw [TV.at_iff]
  refine ⟨h0, h1, ?_, _, _, ?_, hR⟩
  · rw [h2, hs]
  · rw [h3, hn]
/-- A term that lies at four cells, as a value. -/
theorem at_tval {b o : Nat} (h : t.At V b o) : ∃ A n c, V.cell? ⟨b, o, none⟩ = some (.int .i64 t.kind) ∧ V.cell? ⟨b, o + 1, none⟩ = some (.int .i64 t.int) ∧ V.cell? ⟨b, o + 2, none⟩ = some (.string ⟨t.name.toArray⟩) ∧ V.cell? ⟨b, o + 3, none⟩ = some (.slice A n c) ∧ t.items.length = n ∧ RdM V A c t.items := by
  rw [TV.at_iff] at h
  obtain ⟨h0, h1, h2, A, c, h3, hR⟩ := h
  exact ⟨A, _, c, h0, h1, h2, h3, rfl, hR⟩

theorem same_v (h : TVal W u t) (h' : TVal W u' t') : Calls Try.prog 13 #[u, u'] W fun e w' => e = .returned (.bool (t.cmp t' == 0)) ∧ Below W.heap.size W w' := by
  obtain ⟨A, n, c, rfl, rfl, hR⟩ := h
  obtain ⟨A', n', c', rfl, rfl, hR'⟩ := h'
  exact tsame_any t t' A c A' c' W W (Below.refl _ _) hR hR'

/-! ### what makes terms -/
set_option maxHeartbeats 400000 in
theorem pint_v (n : Int) (W : World) : Calls Try.prog 92 #[.int .i64 n] W fun e w' => e = .returned (.agg #[.int .i64 1, .int .i64 n, .string ⟨#[]⟩, .slice none 0 0]) ∧ Below W.heap.size W w' := by
  go_enter Try.func92, Try.ntmps92
  go_wp2
  exact bodyPost_ret (v := .agg #[.int .i64 1, .int .i64 n, .string ⟨#[]⟩, .slice none 0 0]) (by simp [results, Try.results92, go_sem]) rfl ⟨rfl, below_alloc _ _⟩
set_option maxHeartbeats 400000 in
theorem patom_v (s : List UInt8) (W : World) : Calls Try.prog 93 #[.string ⟨s.toArray⟩] W fun e w' => e = .returned (.agg #[.int .i64 2, .int .i64 0, .string ⟨s.toArray⟩, .slice none 0 0]) ∧ Below W.heap.size W w' := by
  go_enter Try.func93, Try.ntmps93
  go_wp2
  exact bodyPost_ret (v := .agg #[.int .i64 2, .int .i64 0, .string ⟨s.toArray⟩, .slice none 0 0]) (by simp [results, Try.results93, go_sem]) rfl ⟨rfl, below_alloc _ _⟩
set_option maxHeartbeats 400000 in
theorem pnil_v (W : World) : Calls Try.prog 96 #[] W fun e w' => e = .returned (.agg #[.int .i64 7, .int .i64 0, .string ⟨#[]⟩, .slice none 0 0]) ∧ Below W.heap.size W w' := by
  go_enter Try.func96, Try.ntmps96
  go_wp2
  exact bodyPost_ret (v := .agg #[.int .i64 7, .int .i64 0, .string ⟨#[]⟩, .slice none 0 0]) (by simp [results, Try.results96, go_sem]) rfl ⟨rfl, below_alloc _ _⟩
set_option maxHeartbeats 400000 in
theorem tatom_v (s : List UInt8) (W : World) : Calls Try.prog 72 #[.string ⟨s.toArray⟩] W fun e w' => e = .returned (.agg #[.int .i64 2, .int .i64 0, .string ⟨s.toArray⟩, .slice none 0 0]) ∧ Below W.heap.size W w' := by
  go_enter Try.func72, Try.ntmps72
  go_wp2
  exact bodyPost_ret (v := .agg #[.int .i64 2, .int .i64 0, .string ⟨s.toArray⟩, .slice none 0 0]) (by simp [results, Try.results72, go_sem]) rfl ⟨rfl, below_alloc _ _⟩
set_option maxHeartbeats 400000 in
theorem tnil_v (W : World) : Calls Try.prog 55 #[] W fun e w' => e = .returned (.agg #[.int .i64 7, .int .i64 0, .string ⟨#[]⟩, .slice none 0 0]) ∧ Below W.heap.size W w' := by
  go_enter Try.func55, Try.ntmps55
  go_wp2
  exact bodyPost_ret (v := .agg #[.int .i64 7, .int .i64 0, .string ⟨#[]⟩, .slice none 0 0]) (by simp [results, Try.results55, go_sem]) rfl ⟨rfl, below_alloc _ _⟩

/-- Two terms in a new block. -/
theorem rdM_two {g : Nat} {k n k' n' : Int} {s s' : List UInt8} {A A' : Option Addr} {m c m' c' : Nat} (hB : ∀ j v, (#[.int .i64 k, .int .i64 n, .string ⟨s.toArray⟩, .slice A m c, .int .i64 k', .int .i64 n', .string ⟨s'.toArray⟩, .slice A' m' c'] : Array Value)[j]? = some v → V.cell? ⟨g, j, none⟩ = some v)
    (h : TVal V (.agg #[.int .i64 k, .int .i64 n, .string ⟨s.toArray⟩, .slice A m c]) t) (h' : TVal V (.agg #[.int .i64 k', .int .i64 n', .string ⟨s'.toArray⟩, .slice A' m' c']) t') : RdM V (some ⟨g, 0, none⟩) 2 [t, t'] := by
  refine ⟨Nat.le_refl _, by omega, .inr ⟨g, 0, rfl, ?_⟩⟩
  simp only [TV.Row]
  exact ⟨tval_at h (hB 0 _ rfl) (hB 1 _ rfl) (hB 2 _ rfl) (hB 3 _ rfl), tval_at h' (hB 4 _ rfl) (hB 5 _ rfl) (hB 6 _ rfl) (hB 7 _ rfl), trivial⟩
theorem cons_end {X : Nat → Prop} (hX : ∀ k, X k → k < W.heap.size) {k n k' n' : Int} {s s' : List UInt8} {A A' : Option Addr} {m c m' c' : Nat} {W3 : World} {B : Nat} (hW : W3.heap.size = B) (hb : Below W.heap.size W W3) (h : TEx X W (.agg #[.int .i64 k, .int .i64 n, .string ⟨s.toArray⟩, .slice A m c]) t) (h' : TEx X W (.agg #[.int .i64 k', .int .i64 n', .string ⟨s'.toArray⟩, .slice A' m' c']) t') :
    R1 X W (tC t t') (.returned (.agg #[.int .i64 8, .int .i64 0, .string ⟨#[]⟩, .slice (some ⟨B, 0, none⟩) 2 2])) (W3.alloc (.cells #[.int .i64 k, .int .i64 n, .string ⟨s.toArray⟩, .slice A m c, .int .i64 k', .int .i64 n', .string ⟨s'.toArray⟩, .slice A' m' c'] 37)) := by
  subst hW
  have hb2 : Below W.heap.size W (W3.alloc (.cells #[.int .i64 k, .int .i64 n, .string ⟨s.toArray⟩, .slice A m c, .int .i64 k', .int .i64 n', .string ⟨s'.toArray⟩, .slice A' m' c'] 37)) := below_step hb (below_alloc _ _)
  have hg : ¬ X W3.heap.size := fun h9 => by have := hX _ h9; have := hb.size; omega
  refine ⟨_, rfl, ⟨_, _, _, rfl, rfl, rdM_two (fun j v hj => (ers_cell _ _ _).2 ⟨hg, by rw [(Blk.new W3 _ _).cell]; exact hj⟩) (h.below hb2) (h'.below hb2)⟩, hb2⟩
set_option maxHeartbeats 1000000 in
theorem tcons_v {X : Nat → Prop} (hX : ∀ k, X k → k < W.heap.size) (h : TEx X W u t) (h' : TEx X W u' t') : Calls Try.prog 56 #[u, u'] W (R1 X W (tC t t')) := by
  have HT := Lib.hid h
  have HT' := Lib.hid h'
  have HX := Lib.hid hX
  obtain ⟨A, n, c, rfl, hn⟩ := h.form
  obtain ⟨A', n', c', rfl, hn'⟩ := h'.form
  clear hn hn' h h' hX
  go_enter Try.func56, Try.ntmps56
  go_wp2
  exact bodyPost_ret (v := .agg #[.int .i64 8, .int .i64 0, .string ⟨#[]⟩, .slice (some ⟨W.heap.size + 1 + 1 + 1, 0, none⟩) 2 2]) (by simp [results, Try.results56, go_sem]) rfl (cons_end HX.out (by simp) (below_step (below_step (below_alloc _ _) (below_alloc _ _)) (below_alloc _ _)) HT.out HT'.out)

/-! ### slices.Clone, Tuple -/
theorem termT : ElT Try.prog 22 37 (.agg #[.int .i64 0, .int .i64 0, .string ⟨#[]⟩, .slice none 0 0]) 4 56 := ⟨Try.underlying22, by kernel_rfl, rfl, by omega⟩
/-- The cells of terms that lie in a row. -/
theorem row_cells : ∀ {l : List TV} {b o : Nat}, TV.Row V l b o → ∃ cs : List Value, cs.length = l.length * 4 ∧ (∀ u ∈ cs, u.oneCell' = true) ∧ (∀ j, (h : j < cs.length) → V.cell? ⟨b, o + j, none⟩ = some cs[j]) ∧
    ∀ (V2 : World) (g o' : Nat), (∀ p : Addr, (V.cell? p).isSome = true → V2.cell? p = V.cell? p) → (∀ j, (h : j < cs.length) → V2.cell? ⟨g, o' + j, none⟩ = some cs[j]) → TV.Row V2 l g o'
  | [], b, o, _ => ⟨[], rfl, by simp, by simp, fun V2 g o' _ _ => by simp [TV.Row]⟩
  | t :: r, b, o, h => by
    simp only [TV.Row] at h
    obtain ⟨h0, hr⟩ := h
    obtain ⟨cs, c1, c2, c3, c4⟩ := row_cells hr
    obtain ⟨A, n, c, e0, e1, e2, e3, hn, hR⟩ := at_tval h0
    refine ⟨.int .i64 t.kind :: .int .i64 t.int :: .string ⟨t.name.toArray⟩ :: .slice A n c :: cs, by simp [c1]; omega, ?_, ?_, ?_⟩
    · intro u hu
      simp only [List.mem_cons] at hu
      rcases hu with rfl | rfl | rfl | rfl | hu
      · rfl
      · rfl
      · rfl
      · rfl
      · exact c2 u hu
    · intro j hj
      rcases j with _ | _ | _ | _ | j
      · exact e0
      · exact e1
      · exact e2
      · exact e3
      · have := c3 j (by simpa using hj)
        simpa [show o + (j + 1 + 1 + 1 + 1) = o + 4 + j by omega] using this
    · intro V2 g o' hk hc
      simp only [TV.Row]
      have hc4 : ∀ j, (h : j < cs.length) → V2.cell? ⟨g, o' + 4 + j, none⟩ = some cs[j] := fun j hj => by
        have := hc (j + 1 + 1 + 1 + 1) (by simpa using hj)
        simpa [show o' + (j + 1 + 1 + 1 + 1) = o' + 4 + j by omega] using this
      refine ⟨?_, c4 V2 g (o' + 4) hk hc4⟩
      have d0 := hc 0 (by simp)
      have d1 := hc 1 (by simp)
      have d2 := hc 2 (by simp)
      have d3 := hc 3 (by simp)
      refine tval_at (k := t.kind) (n := t.int) (s := t.name) (A := A) (m := n) (c := c) ⟨A, n, c, rfl, hn, hR.kept fun p hp => hk p hp⟩ (by simpa using d0) (by simpa using d1) (by simpa using d2) (by simpa using d3)
/-! ### a struct that is returned by a cell -/
theorem Blk.set4 {p ty : Nat} {a b c d : Value} (h : Blk V p ty #[a, b, c, d]) (x0 x1 x2 x3 : Value) : Blk ((((V.setCell ⟨p, 0, none⟩ x0).setCell ⟨p, 1, none⟩ x1).setCell ⟨p, 2, none⟩ x2).setCell ⟨p, 3, none⟩ x3) p ty #[x0, x1, x2, x3] := by
  have := (((h.set_ 0 x0).set_ 1 x1).set_ 2 x2).set_ 3 x3
  simpa using this
theorem fr_set4 (V : World) (p : Nat) (x0 x1 x2 x3 : Value) : Fr (fun k => k = p) V ((((V.setCell ⟨p, 0, none⟩ x0).setCell ⟨p, 1, none⟩ x1).setCell ⟨p, 2, none⟩ x2).setCell ⟨p, 3, none⟩ x3) :=
  (((Fr.setCell (fun k => k = p) V (p := ⟨p, 0, none⟩) (fun _ => rfl) x0).same (Fr.setCell (fun k => k = p) _ (p := ⟨p, 1, none⟩) (fun _ => rfl) x1)).same (Fr.setCell (fun k => k = p) _ (p := ⟨p, 2, none⟩) (fun _ => rfl) x2)).same (Fr.setCell (fun k => k = p) _ (p := ⟨p, 3, none⟩) (fun _ => rfl) x3)
end
end
section
open Go.RowKit
set_option linter.unusedVariables false

section
variable {W V V' : World} {u u' : Value} {t t' : TV}
/-- A slice of terms. -/
def LVal (V : World) (u : Value) (l : List TV) : Prop := ∃ A n c, u = .slice A n c ∧ l.length = n ∧ RdM V A c l
theorem LVal.below {l : List TV} (h : LVal V u l) (hb : Below V.heap.size V V') : LVal V' u l := by
  obtain ⟨A, n, c, h1, h2, h3⟩ := h
  exact ⟨A, n, c, h1, h2, h3.below hb⟩
theorem LVal.kept {l : List TV} (h : LVal V u l) (hk : Kept V V') : LVal V' u l := by
  obtain ⟨A, n, c, h1, h2, h3⟩ := h
  exact ⟨A, n, c, h1, h2, h3.kept hk⟩
/-- .. whatever becomes of the blocks X. -/
def LEx (X : Nat → Prop) (V : World) (u : Value) (l : List TV) : Prop := LVal (ers X V) u l
theorem LEx.val {X : Nat → Prop} {l : List TV} (h : LEx X V u l) : LVal V u l := LVal.kept h (kept_ers X V)
theorem LEx.step {X Y : Nat → Prop} {l : List TV} (h : LEx X V u l) (hf : Fr Y V V') (hY : ∀ k, k < V.heap.size → Y k → X k) : LEx X V' u l := LVal.kept h (kept_step hf hY (fun _ _ h => h))
theorem LEx.below {X : Nat → Prop} {l : List TV} (h : LEx X V u l) (hb : Below V.heap.size V V') : LEx X V' u l := h.step (Fr.of_below hb X) (fun _ _ h => h)
theorem LEx.weak {X Y : Nat → Prop} {l : List TV} (h : LEx X V u l) (hY : ∀ k, k < V.heap.size → Y k → X k) : LEx Y V u l := LVal.kept h (kept_step (Fr.refl X V) (fun _ _ h => h) hY)
theorem lex_old {w0 : World} {X : Nat → Prop} {l : List TV} (hW : Below w0.heap.size w0 V) (h : LVal w0 u l) (hX : ∀ k, X k → w0.heap.size ≤ k) : LEx X V u l := h.kept (kept_old hW hX)
theorem LEx.form {X : Nat → Prop} {l : List TV} (h : LEx X V u l) : ∃ A n c, u = .slice A n c ∧ l.length = n ∧ n ≤ c ∧ c ≤ 9223372036854775807 := by
  obtain ⟨A, n, c, h1, h2, h3⟩ := h
  exact ⟨A, n, c, h1, h2, by have := h3.1; omega, h3.2.1⟩
/-- An element of a slice of terms. -/
theorem LEx.item {X : Nat → Prop} {l : List TV} {A : Option Addr} {n c : Nat} (h : LEx X V (.slice A n c) l) {j : Nat} (hj : j < l.length) : ∃ b o A' n' c', A = some ⟨b, o, none⟩ ∧ V.cell? ⟨b, o + j * 4, none⟩ = some (.int .i64 l[j].kind) ∧ V.cell? ⟨b, o + j * 4 + 1, none⟩ = some (.int .i64 l[j].int) ∧ V.cell? ⟨b, o + j * 4 + 2, none⟩ = some (.string ⟨l[j].name.toArray⟩) ∧ V.cell? ⟨b, o + j * 4 + 3, none⟩ = some (.slice A' n' c') ∧ l[j].items.length = n' ∧ TEx X V (.agg #[.int .i64 l[j].kind, .int .i64 l[j].int, .string ⟨l[j].name.toArray⟩, .slice A' n' c']) l[j] := by
  obtain ⟨A0, n0, c0, e, h2, h3⟩ := h
  obtain ⟨rfl, rfl, rfl⟩ := Value.slice.inj e
  obtain ⟨b, o, A', c', hA, e0, e1, e2, e3, hR⟩ := h3.item hj
  exact ⟨b, o, A', _, c', hA, ((ers_cell _ _ _).1 e0).2, ((ers_cell _ _ _).1 e1).2, ((ers_cell _ _ _).1 e2).2, ((ers_cell _ _ _).1 e3).2, rfl, A', _, c', rfl, rfl, hR⟩
/-- A term's items. -/
theorem TEx.items {X : Nat → Prop} {k n : Int} {s : List UInt8} {A : Option Addr} {m c : Nat} (h : TEx X V (.agg #[.int .i64 k, .int .i64 n, .string ⟨s.toArray⟩, .slice A m c]) t) : LEx X V (.slice A m c) t.items := by
  obtain ⟨A', n', c', e, hn, hR⟩ := h
  simp only [Value.agg.injEq, Array.mk.injEq, List.cons.injEq, Value.slice.injEq, and_true] at e
  obtain ⟨_, _, _, rfl, rfl, rfl⟩ := e
  exact ⟨A, m, c, rfl, hn, hR⟩
theorem lval_nil (V : World) : LVal V (.slice none 0 0) [] := ⟨none, 0, 0, rfl, rfl, rdM_nil _ _ _ (by omega)⟩
/-- Each term's four cells. -/
def StdE (V : World) (cs : List Value) (l : List TV) : Prop := ∀ j, (h : j < l.length) → ∃ (k n : Int) (s : List UInt8) (A : Option Addr) (m c : Nat), cs[j * 4]? = some (.int .i64 k) ∧ cs[j * 4 + 1]? = some (.int .i64 n) ∧ cs[j * 4 + 2]? = some (.string ⟨s.toArray⟩) ∧ cs[j * 4 + 3]? = some (.slice A m c) ∧ TVal V (.agg #[.int .i64 k, .int .i64 n, .string ⟨s.toArray⟩, .slice A m c]) l[j]
/-- Cells that stand for terms wherever they are copied to. -/
def Std (V : World) (cs : List Value) (l : List TV) : Prop := cs.length = l.length * 4 ∧ (∀ u ∈ cs, u.oneCell' = true) ∧ StdE V cs l
theorem row_of_at : ∀ {l : List TV} {b o : Nat}, (∀ k, (h : k < l.length) → l[k].At V b (o + k * 4)) → TV.Row V l b o
  | [], b, o, _ => by simp [TV.Row]
  | t :: r, b, o, h => by
    simp only [TV.Row]
    refine ⟨by have := h 0 (by simp); rw [Nat.zero_mul, Nat.add_zero] at this; exact this, row_of_at fun k hk => ?_⟩
    have := h (k + 1) (by simp; omega)
    rw [show o + (k + 1) * 4 = o + 4 + k * 4 by omega] at this
    exact this
theorem Std.row {cs : List Value} {l : List TV} (h : Std V cs l) (V2 : World) (g o' : Nat) (hk : Kept V V2) (hc : ∀ j, (h : j < cs.length) → V2.cell? ⟨g, o' + j, none⟩ = some cs[j]) : TV.Row V2 l g o' := row_of_at fun j hj => by
  obtain ⟨k, n, s, A, m, c, e0, e1, e2, e3, hT⟩ := h.2.2 j hj
  have hh : ∀ i u, cs[i]? = some u → V2.cell? ⟨g, o' + i, none⟩ = some u := fun i u hu => by
    obtain ⟨hlt, rfl⟩ := List.getElem?_eq_some_iff.1 hu
    exact hc i hlt
  exact tval_at (hT.kept hk) (hh _ _ e0) (by rw [Nat.add_assoc]; exact hh _ _ e1) (by rw [Nat.add_assoc]; exact hh _ _ e2) (by rw [Nat.add_assoc]; exact hh _ _ e3)
theorem Std.kept {cs : List Value} {l : List TV} (h : Std V cs l) (hk : Kept V V') : Std V' cs l := by
  refine ⟨h.1, h.2.1, fun j hj => ?_⟩
  obtain ⟨k, n, s, A, m, c, e0, e1, e2, e3, hT⟩ := h.2.2 j hj
  exact ⟨k, n, s, A, m, c, e0, e1, e2, e3, hT.kept hk⟩
theorem std_nil (V : World) : Std V [] [] := ⟨rfl, by simp, fun j hj => by simp at hj⟩
theorem Std.append {cs cs' : List Value} {l l' : List TV} (h : Std V cs l) (h' : Std V cs' l') : Std V (cs ++ cs') (l ++ l') := by
  have h1 := h.1
  refine ⟨by simp [h.1, h'.1]; omega, fun u hu => ?_, fun j hj => ?_⟩
  · rcases List.mem_append.1 hu with hu | hu
    · exact h.2.1 u hu
    · exact h'.2.1 u hu
  · by_cases hl : j < l.length
    · obtain ⟨k, n, s, A, m, c, e0, e1, e2, e3, hT⟩ := h.2.2 j hl
      rw [List.getElem_append_left hl]
      exact ⟨k, n, s, A, m, c, by rw [List.getElem?_append_left (by omega)]; exact e0, by rw [List.getElem?_append_left (by omega)]; exact e1, by rw [List.getElem?_append_left (by omega)]; exact e2, by rw [List.getElem?_append_left (by omega)]; exact e3, hT⟩
    · have hj2 : j - l.length < l'.length := by simp at hj; omega
      obtain ⟨k, n, s, A, m, c, e0, e1, e2, e3, hT⟩ := h'.2.2 (j - l.length) hj2
      rw [List.getElem_append_right (by omega)]
      exact ⟨k, n, s, A, m, c, by rw [List.getElem?_append_right (by omega), show j * 4 - cs.length = (j - l.length) * 4 by omega]; exact e0, by rw [List.getElem?_append_right (by omega), show j * 4 + 1 - cs.length = (j - l.length) * 4 + 1 by omega]; exact e1, by rw [List.getElem?_append_right (by omega), show j * 4 + 2 - cs.length = (j - l.length) * 4 + 2 by omega]; exact e2, by rw [List.getElem?_append_right (by omega), show j * 4 + 3 - cs.length = (j - l.length) * 4 + 3 by omega]; exact e3, hT⟩
theorem std_one {k n : Int} {s : List UInt8} {A : Option Addr} {m c : Nat} (hu : TVal V (.agg #[.int .i64 k, .int .i64 n, .string ⟨s.toArray⟩, .slice A m c]) t) : Std V [.int .i64 k, .int .i64 n, .string ⟨s.toArray⟩, .slice A m c] [t] := by
  refine ⟨rfl, fun u hu => ?_, fun j hj => ?_⟩
  · simp only [List.mem_cons, List.mem_nil_iff, or_false] at hu
    rcases hu with rfl | rfl | rfl | rfl <;> rfl
  · obtain rfl : j = 0 := by simp at hj; omega
    exact ⟨k, n, s, A, m, c, rfl, rfl, rfl, rfl, hu⟩
/-- The cells of a slice of terms. -/
theorem rdM_std {A : Option Addr} {c : Nat} {l : List TV} (h : RdM V A c l) : ∃ cs, Std V cs l ∧ Cs V A cs := by
  rcases h.2.2 with rfl | ⟨b, o, rfl, hr⟩
  · exact ⟨[], std_nil V, .inl rfl⟩
  · obtain ⟨cs, c1, c2, c3, c4⟩ := row_cells hr
    refine ⟨cs, ⟨c1, c2, fun j hj => ?_⟩, .inr ⟨⟨b, o, none⟩, rfl, fun j u hj => ?_⟩⟩
    · obtain ⟨A, n, c, e0, e1, e2, e3, hn, hR⟩ := at_tval (row_at hr hj)
      have hh : ∀ i u, i < cs.length → V.cell? ⟨b, o + i, none⟩ = some u → cs[i]? = some u := fun i u hi h => by
        rw [c3 i hi] at h
        rw [List.getElem?_eq_getElem hi]
        exact h
      exact ⟨_, _, l[j].name, A, n, c, hh _ _ (by omega) e0, hh _ _ (by omega) (by rw [← Nat.add_assoc]; exact e1), hh _ _ (by omega) (by rw [← Nat.add_assoc]; exact e2), hh _ _ (by omega) (by rw [← Nat.add_assoc]; exact e3), A, n, c, rfl, hn, hR⟩
    · obtain ⟨hlt, rfl⟩ := List.getElem?_eq_some_iff.1 hj
      rw [Addr.add_lit]
      exact c3 j hlt
/-- A row of terms of the call's own. -/
theorem lex_own {X : Nat → Prop} {base n : Nat} {cs : List Value} {l : List TV} (ho : V.ownsRow base 37 4 u n cs) (hX : ∀ k, X k → k < base) (hs : Std (ers X V) cs l) : LEx X V u l ∧ l.length = n := by
  have hl : l.length = n := by have h1 := ho.1; have h2 := hs.1; omega
  refine ⟨?_, hl⟩
  rcases ho.2 with ⟨rfl, hz⟩ | ⟨g, cap, cur, rfl, hbg, hg, hnc, hcm, hsz, htake⟩
  · exact ⟨none, 0, 0, rfl, by omega, by rw [List.eq_nil_of_length_eq_zero (show l.length = 0 by omega)]; exact rdM_nil _ _ _ (by omega)⟩
  · refine ⟨_, n, cap, rfl, hl, by omega, by unfold maxLen at hcm; exact hcm, .inr ⟨g, 0, rfl, hs.row _ g 0 (fun _ _ => rfl) fun j hj => ?_⟩⟩
    have hc := ho.cells (g := g) rfl j cs[j] (by rw [List.getElem?_eq_getElem hj])
    rw [Addr.add_lit] at hc
    exact (ers_cell _ _ _).2 ⟨fun h9 => by have := hX _ h9; simp only at this; omega, hc⟩

/-- A block of no cells that grows: what was there stays. -/
theorem kept_grow {X : Nat → Prop} {ty : Nat} {g : Nat} (hB : Blk V g ty #[]) (hg : V.grownBy V' (some g)) : Kept (ers X V) (ers X V') := kept_of fun p v hp => by
  obtain ⟨h1, h2⟩ := (ers_cell X V p).1 hp
  refine (ers_cell X V' p).2 ⟨h1, ?_⟩
  have hlt := World.block_lt_of_cell? V p h2
  by_cases e : p.block = g
  · exfalso
    unfold World.cell? at h2
    unfold Blk at hB
    rw [e, hB] at h2
    simp at h2
  · exact (World.cell?_of_block (hg.block p.block hlt (fun h => e (Option.some.inj h)))).trans h2
/-- What a function that makes a slice of terms leaves. -/
def RL (X : Nat → Prop) (W : World) (l : List TV) (e : Ending) (w' : World) : Prop := ∃ u, e = .returned u ∧ LEx X w' u l ∧ Below W.heap.size W w'
end
end
end Go.Proofs.Ytefnjplfemgibaa
