/- Arith (layer 14): terms as values; what makes terms. -/
import Derived.Test.YtmpknhdfglbocaaGreatTermY
import Derived.Test.YtmpknhdfglbocaaGreatArM
import Derived.Test.YtmpknhdfglbocaaGreatShelf
namespace Go.Proofs.YtmpknhdfglbocaaGreat
open Go.RowKit
set_option linter.unusedVariables false

/-- A value is a term. -/
def TVal (V : World) (u : Value) (t : TV) : Prop := ∃ A n c, u = .agg #[.int .i64 t.kind, .int .i64 t.int, .string ⟨t.name.toArray⟩, .slice A n c] ∧ t.items.length = n ∧ RdM V A c t.items
open Classical in
/-- A world without the blocks X (boxes of callers). -/
noncomputable def ers (X : Nat → Prop) (V : World) : World := { V with heap := V.heap.mapIdx fun i o => if X i then .map #[] 0 else o }
theorem ers_cell (X : Nat → Prop) (V : World) (p : Addr) {v : Value} : (ers X V).cell? p = some v ↔ ¬ X p.block ∧ V.cell? p = some v := by
  unfold World.cell? ers
  simp only [Array.getElem?_mapIdx]
  by_cases h : X p.block
  · cases ho : V.heap[p.block]? with
    | none => simp [h]
    | some o => simp [h]
  · cases ho : V.heap[p.block]? with
    | none => simp
    | some o => simp [h]
/-- .. a term whatever becomes of the blocks X. -/
def TEx (X : Nat → Prop) (V : World) (u : Value) (t : TV) : Prop := TVal (ers X V) u t
/-- What a function that makes one term leaves. -/
def R1 (X : Nat → Prop) (W : World) (t : TV) (e : Ending) (w' : World) : Prop := ∃ u, e = .returned u ∧ TEx X w' u t ∧ Below W.heap.size W w'
/-- .. one that makes a term or says why not. -/
def R2 (X : Nat → Prop) (W : World) (r : TV × List UInt8) (e : Ending) (w' : World) : Prop := ∃ u, e = .returned (.tuple #[u, .string ⟨r.2.toArray⟩]) ∧ TEx X w' u r.1 ∧ Below W.heap.size W w'
def tA (s : List UInt8) : TV := .mk 2 0 s []
def tN : TV := .mk 7 0 [] []
def tC (h t : TV) : TV := .mk 8 0 [] [h, t]
section
variable {W V V' : World} {u u' : Value} {t t' : TV}
theorem rdM_nil (V : World) (A : Option Addr) (c : Nat) (hc : c ≤ 9223372036854775807) : RdM V A c [] := ⟨Nat.zero_le _, hc, .inl rfl⟩
theorem TVal.below (h : TVal V u t) (hb : Below V.heap.size V V') : TVal V' u t := by
  obtain ⟨A, n, c, h1, h2, h3⟩ := h
  exact ⟨A, n, c, h1, h2, h3.below hb⟩
theorem TVal.len (h : TVal V u t) : t.items.length ≤ 9223372036854775807 := by
  obtain ⟨A, n, c, h1, h2, h3⟩ := h
  exact Nat.le_trans h3.1 h3.2.1
theorem tval_n (V : World) : TVal V (.agg #[.int .i64 7, .int .i64 0, .string ⟨#[]⟩, .slice none 0 0]) tN := ⟨none, 0, 0, rfl, rfl, rdM_nil _ _ _ (by omega)⟩
theorem TVal.kept (h : TVal V u t) (hk : Kept V V') : TVal V' u t := by
  obtain ⟨A, n, c, h1, h2, h3⟩ := h
  exact ⟨A, n, c, h1, h2, h3.kept hk⟩
theorem kept_of (h : ∀ p v, V.cell? p = some v → V'.cell? p = some v) : Kept V V' := fun p hp => by
  obtain ⟨v, hv⟩ := Option.isSome_iff_exists.1 hp
  rw [h p v hv, hv]
theorem kept_ers (X : Nat → Prop) (V : World) : Kept (ers X V) V := kept_of fun p v h => ((ers_cell X V p).1 h).2
theorem kept_step {X Y Z : Nat → Prop} (hf : Fr Y V V') (hY : ∀ k, k < V.heap.size → Y k → X k) (hZ : ∀ k, k < V.heap.size → Z k → X k) : Kept (ers X V) (ers Z V') := kept_of fun p v h => by
  obtain ⟨h1, h2⟩ := (ers_cell X V p).1 h
  have hlt := World.block_lt_of_cell? V p h2
  exact (ers_cell Z V' p).2 ⟨fun h9 => h1 (hZ _ hlt h9), (World.cell?_of_block (hf.block _ hlt fun h9 => h1 (hY _ hlt h9))).trans h2⟩
theorem TEx.val {X : Nat → Prop} (h : TEx X V u t) : TVal V u t := TVal.kept h (kept_ers X V)
theorem TEx.step {X Y : Nat → Prop} (h : TEx X V u t) (hf : Fr Y V V') (hY : ∀ k, k < V.heap.size → Y k → X k) : TEx X V' u t := TVal.kept h (kept_step hf hY (fun _ _ h => h))
theorem TEx.below {X : Nat → Prop} (h : TEx X V u t) (hb : Below V.heap.size V V') : TEx X V' u t := h.step (Fr.of_below hb X) (fun _ _ h => h)
theorem TEx.weak {X Y : Nat → Prop} (h : TEx X V u t) (hY : ∀ k, k < V.heap.size → Y k → X k) : TEx Y V u t := TVal.kept h (kept_step (Fr.refl X V) (fun _ _ h => h) hY)
theorem TEx.form {X : Nat → Prop} (h : TEx X V u t) : ∃ A n c, u = .agg #[.int .i64 t.kind, .int .i64 t.int, .string ⟨t.name.toArray⟩, .slice A n c] ∧ t.items.length = n := by
  obtain ⟨A, n, c, h1, h2, h3⟩ := h.val
  exact ⟨A, n, c, h1, h2⟩
theorem tex_n (X : Nat → Prop) (V : World) : TEx X V (.agg #[.int .i64 7, .int .i64 0, .string ⟨#[]⟩, .slice none 0 0]) tN := tval_n _
/-- A term lies where its value was laid. -/
theorem tval_at {b o : Nat} {k n : Int} {s : List UInt8} {A : Option Addr} {m c : Nat} (hu : TVal V (.agg #[.int .i64 k, .int .i64 n, .string ⟨s.toArray⟩, .slice A m c]) t)
    (h0 : V.cell? ⟨b, o, none⟩ = some (.int .i64 k)) (h1 : V.cell? ⟨b, o + 1, none⟩ = some (.int .i64 n)) (h2 : V.cell? ⟨b, o + 2, none⟩ = some (.string ⟨s.toArray⟩)) (h3 : V.cell? ⟨b, o + 3, none⟩ = some (.slice A m c)) : t.At V b o := by
  obtain ⟨A', n', c', e, hn, hR⟩ := hu
  simp only [Value.agg.injEq, Array.mk.injEq, List.cons.injEq, Value.int.injEq, Value.slice.injEq, Value.string.injEq, ByteArray.mk.injEq, true_and, and_true] at e
  obtain ⟨rfl, rfl, hs, rfl, rfl, rfl⟩ := e
  rw [TV.at_iff]
  refine ⟨h0, h1, ?_, _, _, ?_, hR⟩
  · rw [h2, hs]
  · rw [h3, hn]

/-! ### what makes terms -/
set_option maxHeartbeats 400000 in
theorem tatom_v (s : List UInt8) (W : World) : Calls Tryz.prog 38 #[.string ⟨s.toArray⟩] W fun e w' => e = .returned (.agg #[.int .i64 2, .int .i64 0, .string ⟨s.toArray⟩, .slice none 0 0]) ∧ Below W.heap.size W w' := by
  go_enter Tryz.func38, Tryz.ntmps38
  go_wp2
  exact bodyPost_ret (v := .agg #[.int .i64 2, .int .i64 0, .string ⟨s.toArray⟩, .slice none 0 0]) (by simp [results, Tryz.results38, go_sem]) rfl ⟨rfl, below_alloc _ _⟩
set_option maxHeartbeats 400000 in
theorem tnil_v (W : World) : Calls Tryz.prog 39 #[] W fun e w' => e = .returned (.agg #[.int .i64 7, .int .i64 0, .string ⟨#[]⟩, .slice none 0 0]) ∧ Below W.heap.size W w' := by
  go_enter Tryz.func39, Tryz.ntmps39
  go_wp2
  exact bodyPost_ret (v := .agg #[.int .i64 7, .int .i64 0, .string ⟨#[]⟩, .slice none 0 0]) (by simp [results, Tryz.results39, go_sem]) rfl ⟨rfl, below_alloc _ _⟩

/-- Two terms in a new block. -/
theorem rdM_two {g : Nat} {k n k' n' : Int} {s s' : List UInt8} {A A' : Option Addr} {m c m' c' : Nat} (hB : ∀ j v, (#[.int .i64 k, .int .i64 n, .string ⟨s.toArray⟩, .slice A m c, .int .i64 k', .int .i64 n', .string ⟨s'.toArray⟩, .slice A' m' c'] : Array Value)[j]? = some v → V.cell? ⟨g, j, none⟩ = some v)
    (h : TVal V (.agg #[.int .i64 k, .int .i64 n, .string ⟨s.toArray⟩, .slice A m c]) t) (h' : TVal V (.agg #[.int .i64 k', .int .i64 n', .string ⟨s'.toArray⟩, .slice A' m' c']) t') : RdM V (some ⟨g, 0, none⟩) 2 [t, t'] := by
  refine ⟨Nat.le_refl _, by omega, .inr ⟨g, 0, rfl, ?_⟩⟩
  simp only [TV.Row]
  exact ⟨tval_at h (hB 0 _ rfl) (hB 1 _ rfl) (hB 2 _ rfl) (hB 3 _ rfl), tval_at h' (hB 4 _ rfl) (hB 5 _ rfl) (hB 6 _ rfl) (hB 7 _ rfl), trivial⟩
theorem cons_end {X : Nat → Prop} (hX : ∀ k, X k → k < W.heap.size) {k n k' n' : Int} {s s' : List UInt8} {A A' : Option Addr} {m c m' c' : Nat} {W3 : World} {B : Nat} (hW : W3.heap.size = B) (hb : Below W.heap.size W W3) (h : TEx X W (.agg #[.int .i64 k, .int .i64 n, .string ⟨s.toArray⟩, .slice A m c]) t) (h' : TEx X W (.agg #[.int .i64 k', .int .i64 n', .string ⟨s'.toArray⟩, .slice A' m' c']) t') :
    R1 X W (tC t t') (.returned (.agg #[.int .i64 8, .int .i64 0, .string ⟨#[]⟩, .slice (some ⟨B, 0, none⟩) 2 2])) (W3.alloc (.cells #[.int .i64 k, .int .i64 n, .string ⟨s.toArray⟩, .slice A m c, .int .i64 k', .int .i64 n', .string ⟨s'.toArray⟩, .slice A' m' c'] 35)) := by
  subst hW
  have hb2 : Below W.heap.size W (W3.alloc (.cells #[.int .i64 k, .int .i64 n, .string ⟨s.toArray⟩, .slice A m c, .int .i64 k', .int .i64 n', .string ⟨s'.toArray⟩, .slice A' m' c'] 35)) := below_step hb (below_alloc _ _)
  have hg : ¬ X W3.heap.size := fun h9 => by have := hX _ h9; have := hb.size; omega
  refine ⟨_, rfl, ⟨_, _, _, rfl, rfl, rdM_two (fun j v hj => (ers_cell _ _ _).2 ⟨hg, by rw [(Blk.new W3 _ _).cell]; exact hj⟩) (h.below hb2) (h'.below hb2)⟩, hb2⟩
set_option maxHeartbeats 1000000 in
theorem tcons_v {X : Nat → Prop} (hX : ∀ k, X k → k < W.heap.size) (h : TEx X W u t) (h' : TEx X W u' t') : Calls Tryz.prog 40 #[u, u'] W (R1 X W (tC t t')) := by
  have HT := Lib.hid h
  have HT' := Lib.hid h'
  have HX := Lib.hid hX
  obtain ⟨A, n, c, rfl, hn⟩ := h.form
  obtain ⟨A', n', c', rfl, hn'⟩ := h'.form
  clear hn hn' h h' hX
  go_enter Tryz.func40, Tryz.ntmps40
  go_wp2
  exact bodyPost_ret (v := .agg #[.int .i64 8, .int .i64 0, .string ⟨#[]⟩, .slice (some ⟨W.heap.size + 1 + 1 + 1, 0, none⟩) 2 2]) (by simp [results, Tryz.results40, go_sem]) rfl (cons_end HX.out (by simp) (below_step (below_step (below_alloc _ _) (below_alloc _ _)) (below_alloc _ _)) HT.out HT'.out)

/-! ### slices.Clone, Tuple -/
/-! ### a struct that is returned by a cell -/
theorem Blk.set4 {p ty : Nat} {a b c d : Value} (h : Blk V p ty #[a, b, c, d]) (x0 x1 x2 x3 : Value) : Blk ((((V.setCell ⟨p, 0, none⟩ x0).setCell ⟨p, 1, none⟩ x1).setCell ⟨p, 2, none⟩ x2).setCell ⟨p, 3, none⟩ x3) p ty #[x0, x1, x2, x3] := by
  have := (((h.set_ 0 x0).set_ 1 x1).set_ 2 x2).set_ 3 x3
  simpa using this
theorem fr_set4 (V : World) (p : Nat) (x0 x1 x2 x3 : Value) : Fr (fun k => k = p) V ((((V.setCell ⟨p, 0, none⟩ x0).setCell ⟨p, 1, none⟩ x1).setCell ⟨p, 2, none⟩ x2).setCell ⟨p, 3, none⟩ x3) :=
  (((Fr.setCell (fun k => k = p) V (p := ⟨p, 0, none⟩) (fun _ => rfl) x0).same (Fr.setCell (fun k => k = p) _ (p := ⟨p, 1, none⟩) (fun _ => rfl) x1)).same (Fr.setCell (fun k => k = p) _ (p := ⟨p, 2, none⟩) (fun _ => rfl) x2)).same (Fr.setCell (fun k => k = p) _ (p := ⟨p, 3, none⟩) (fun _ => rfl) x3)
end
end Go.Proofs.YtmpknhdfglbocaaGreat
