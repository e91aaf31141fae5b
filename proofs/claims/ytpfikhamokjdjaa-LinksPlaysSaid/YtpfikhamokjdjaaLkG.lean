/- Links (layer 18): Of. -/
import Derived.Test.YtpfikhamokjdjaaLkF
namespace Go.Proofs.Ytpfikhamokjdjaa
open Go.RowKit Go.Maps Go.WideMaps
set_option linter.unusedVariables false

def othP (a : Int) (p : Int × Int) : Option Int := if a = p.1 then some p.2 else if a = p.2 then some p.1 else none
def ofP (L : PL) (a : Int) : List Int := (L.filterMap (othP a)).mergeSort fun x y => decide (x ≤ y)
theorem ofP_perm {D L : PL} {a : Int} (h : D.Perm L) : (D.filterMap (othP a)).mergeSort (fun x y => decide (x ≤ y)) = ofP L a := by
  unfold ofP
  have hp : ((D.filterMap (othP a)).mergeSort fun x y => decide (x ≤ y)).Perm ((L.filterMap (othP a)).mergeSort fun x y => decide (x ≤ y)) :=
    ((List.mergeSort_perm _ _).trans (h.filterMap _)).trans (List.mergeSort_perm _ _).symm
  have hs : ∀ l : List Int, (l.mergeSort fun x y => decide (x ≤ y)).Pairwise (fun x y => x ≤ y) := fun l => by
    have h9 := List.pairwise_mergeSort (le := fun x y : Int => decide (x ≤ y)) (fun a b c h1 h2 => by simp at *; omega) (fun a b => by simp; omega) l
    exact h9.imp fun h8 => by simpa using h8
  exact hp.eq_of_pairwise (fun a b _ _ h1 h2 => by omega) (hs _) (hs _)
theorem i64T : ElT Try.prog 26 2 (.int .i64 0) 1 8 := ⟨Try.underlying26, by kernel_rfl, rfl, by decide⟩
theorem cs_one_val (w : World) (v : Value) (t : TypeId) : Cs (w.alloc (.cells #[v] t)) (some ⟨w.heap.size, 0, none⟩) [v] := .inr ⟨_, rfl, cell_one_new w v t⟩
section
variable {w0 W V : World} {pm b1 b2 n : Nat} {L : PL} {K : WL}
theorem own_bel {w V : World} {base e size n : Nat} {v : Value} {xs : List Value} (h : w.ownsRow base e size v n xs) (hb : Below w.heap.size w V) : V.ownsRow base e size v n xs := h.kept (grown_of_below hb none) (by cases v.ownBlock <;> simp)
theorem below_of_grown2 {w w' : World} {row : Option Nat} {B : Nat} (h : w.grownBy w' row) (hB : B ≤ w.heap.size) (hr : ∀ k, row = some k → B ≤ k) : Below B w w' :=
  (Fr.of_grown (F := fun k => some k = row) h (fun k e _ => e.symm)).below hB (fun k e => hr k e.symm)
/-- A range over the links, on its way: rem is to come, done has come. -/
structure OfR (W0 : World) (b1 n : Nat) (L : PL) (a : Int) (u : Value) (wr : World) (rem done : PL) (cnt : Nat) : Prop where
  rg : PR wr b1 W0.heap.size n L rem cnt
  pm : (rem ++ done).Perm L
  row : wr.ownsRow (W0.heap.size + 1) 2 1 u (done.filterMap (othP a)).length ((done.filterMap (othP a)).map (Value.int .i64))
  bel : Below W0.heap.size W0 wr
  lt : W0.heap.size < wr.heap.size
theorem delP_perm {rem done : PL} {p : Int × Int} (hnd : L.Nodup) (hok : ∀ q ∈ L, i64ok q.1 ∧ i64ok q.2) (h : (rem ++ done).Perm L) (hp : p ∈ rem) : (delG keyP rem (keyP p) ++ (done ++ [p])).Perm L := by
  have hrem : rem.Nodup := (List.nodup_append.1 (h.nodup_iff.2 hnd)).1
  have hsub : ∀ q ∈ rem, q ∈ L := fun q hq => h.mem_iff.1 (List.mem_append_left _ hq)
  have hk : (rem.map keyP).Nodup := by
    rw [List.Nodup, List.pairwise_map]
    refine List.Pairwise.imp_of_mem ?_ hrem
    intro x y hx hy hne e
    obtain ⟨x1, x2⟩ := hok x (hsub x hx)
    obtain ⟨y1, y2⟩ := hok y (hsub y hy)
    exact hne (keyP_inj x1 x2 y1 y2 e)
  have h1 := delG_perm keyP_is hk hp
  refine List.Perm.trans ?_ h
  refine List.Perm.trans ?_ (h1.symm.append_right done)
  rw [List.cons_append, ← List.append_assoc]
  exact (List.perm_append_comm (l₁ := delG keyP rem (keyP p) ++ done) (l₂ := [p]))
section
variable {W0 wr w1 w2 w3 : World} {a : Int} {u u' : Value} {rem done : PL} {cnt cnt1 : Nat} {p : Int × Int}
theorem OfR.one (h : OfR W0 b1 n L a u wr rem done cnt) (hb1 : b1 < W0.heap.size) (hnd : L.Nodup) (hok : ∀ q ∈ L, i64ok q.1 ∧ i64ok q.2) (hp : p ∈ rem) (hpr : PR w1 b1 W0.heap.size n L (delG keyP rem (keyP p)) cnt1) (hg : wr.grownBy w1 (some W0.heap.size)) :
    w1.ownsRow (W0.heap.size + 1) 2 1 u (done.filterMap (othP a)).length ((done.filterMap (othP a)).map (Value.int .i64)) ∧ Below W0.heap.size W0 w1 ∧ W0.heap.size < w1.heap.size := by
  have hlt := h.lt
  have hs := hg.size
  refine ⟨h.row.kept hg ?_, h.bel.trans (below_of_grown2 hg h.bel.size (fun k e => by cases e; exact Nat.le_refl _)), by omega⟩
  cases h9 : u.ownBlock with
  | none => exact .inl rfl
  | some g => exact .inr (fun e => by injection e with e; have h8 := (World.ownsRow.lt h.row g h9).1; omega)
theorem OfR.none_ (h : OfR W0 b1 n L a u wr rem done cnt) (hb1 : b1 < W0.heap.size) (hnd : L.Nodup) (hok : ∀ q ∈ L, i64ok q.1 ∧ i64ok q.2) (hp : p ∈ rem) (hpr : PR w1 b1 W0.heap.size n L (delG keyP rem (keyP p)) cnt1) (hg : wr.grownBy w1 (some W0.heap.size)) (ho : othP a p = none) (hb : Below w1.heap.size w1 w2) :
    OfR W0 b1 n L a u w2 (delG keyP rem (keyP p)) (done ++ [p]) cnt1 := by
  obtain ⟨h1, h2, h3⟩ := h.one hb1 hnd hok hp hpr hg
  have e : (done ++ [p]).filterMap (othP a) = done.filterMap (othP a) := by rw [List.filterMap_append]; simp [ho]
  have hs := hb.size
  refine ⟨hpr.kept (grown_of_below hb none) (by simp) (by simp), delP_perm hnd hok h.pm hp, ?_, h2.trans (hb.mono (by omega)), by omega⟩
  rw [e]
  exact h1.kept (grown_of_below hb none) (by cases u.ownBlock <;> simp)
theorem OfR.some_ {z : Int} (h : OfR W0 b1 n L a u wr rem done cnt) (hb1 : b1 < W0.heap.size) (hnd : L.Nodup) (hok : ∀ q ∈ L, i64ok q.1 ∧ i64ok q.2) (hp : p ∈ rem) (hpr : PR w1 b1 W0.heap.size n L (delG keyP rem (keyP p)) cnt1) (hg : wr.grownBy w1 (some W0.heap.size)) (ho : othP a p = some z) (hb : Below w1.heap.size w1 w2)
    (hr3 : w3.ownsRow (W0.heap.size + 1) 2 1 u' ((done.filterMap (othP a)).length + 1) ((done.filterMap (othP a)).map (Value.int .i64) ++ [.int .i64 z])) (hg3 : w2.grownBy w3 u.ownBlock) :
    OfR W0 b1 n L a u' w3 (delG keyP rem (keyP p)) (done ++ [p]) cnt1 := by
  obtain ⟨h1, h2, h3⟩ := h.one hb1 hnd hok hp hpr hg
  have e : (done ++ [p]).filterMap (othP a) = done.filterMap (othP a) ++ [z] := by rw [List.filterMap_append]; simp [ho]
  have hs := hb.size
  have hs3 := hg3.size
  have hB : ∀ g, u.ownBlock = some g → W0.heap.size + 1 ≤ g := fun g hg => (World.ownsRow.lt h1 g hg).1
  refine ⟨(hpr.kept (grown_of_below hb none) (by simp) (by simp)).kept hg3 (fun e => by have := hB _ e.symm; omega) (fun e => by have := hB _ e.symm; omega), delP_perm hnd hok h.pm hp, ?_, (h2.trans (hb.mono (by omega))).trans (below_of_grown2 hg3 (by omega) (fun k e => by have := hB _ e; omega)), by omega⟩
  rw [e, List.length_append, List.map_append]
  exact hr3
end

end
end Go.Proofs.Ytpfikhamokjdjaa
