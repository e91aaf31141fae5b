/- Heap (layer 9): the document's maker in memory. Written by hqgena.py. Heap (layer 9): the document's maker: atom and cell. Heap (layer 9): the document's maker: cell. -/
import Derived.Test.YtefnjplfemgibaaHpN
namespace Go.Proofs.Ytefnjplfemgibaa
section
open Go.RowKit
set_option linter.unusedVariables false

theorem cellT : ElT Try.prog 74 138 (.agg #[.int .i64 0, .int .i64 0, .slice none 0 0]) 3 40 := ⟨Try.underlying74, by kernel_rfl, rfl, by omega⟩
/-- F are the maker's blocks, G those of the words of its cells. -/
structure QKp (w0 W : World) (F G : Nat → Prop) (pm : Nat) (vw va vr vc : Value) (ws : List Nat) (nm : List (List UInt8)) (rs : List Nat) (nc : Nat) (xs : List Value) : Prop where
  old : Below w0.heap.size w0 W
  fresh : ∀ k, F k → w0.heap.size ≤ k ∧ k < W.heap.size
  obj : Blk W pm 76 #[vw, va, vr, vc]
  fpm : F pm
  gf : ∀ k, G k → F k ∧ k ≠ pm
  rw : W.ownsRow w0.heap.size 34 1 vw ws.length (ws.map nv)
  fw : ∀ k, vw.ownBlock = some k → F k ∧ k ≠ pm ∧ ¬ G k
  ra : W.ownsRow w0.heap.size 9 1 va nm.length (nm.map hv)
  fa : ∀ k, va.ownBlock = some k → F k ∧ k ≠ pm ∧ ¬ G k
  rr : W.ownsRow w0.heap.size 34 1 vr rs.length (rs.map nv)
  fr : ∀ k, vr.ownBlock = some k → F k ∧ k ≠ pm ∧ ¬ G k
  rc : W.ownsRow w0.heap.size 138 3 vc nc xs
  fc : ∀ k, vc.ownBlock = some k → F k ∧ k ≠ pm ∧ ¬ G k
  nwa : ∀ k, vw.ownBlock = some k → va.ownBlock ≠ some k
  nwr : ∀ k, vw.ownBlock = some k → vr.ownBlock ≠ some k
  nwc : ∀ k, vw.ownBlock = some k → vc.ownBlock ≠ some k
  nar : ∀ k, va.ownBlock = some k → vr.ownBlock ≠ some k
  nac : ∀ k, va.ownBlock = some k → vc.ownBlock ≠ some k
  nrc : ∀ k, vr.ownBlock = some k → vc.ownBlock ≠ some k
section
variable {w0 W V V' : World} {F G : Nat → Prop} {pm : Nat} {vw va vr vc : Value} {ws : List Nat} {nm : List (List UInt8)} {rs : List Nat} {nc : Nat} {xs : List Value}
/-- Other blocks may turn. -/
theorem QKp.far (h : QKp w0 W F G pm vw va vr vc ws nm rs nc xs) (hs : W.heap.size ≤ V.heap.size) (hf : ∀ k, F k → V.heap[k]? = W.heap[k]?) (old : Below w0.heap.size w0 V) : QKp w0 V F G pm vw va vr vc ws nm rs nc xs :=
  { h with
    old := old
    fresh := fun k hk => ⟨(h.fresh k hk).1, Nat.lt_of_lt_of_le (h.fresh k hk).2 hs⟩
    obj := (hf pm h.fpm).trans h.obj
    rw := own_at h.rw fun k hk => hf k (h.fw k hk).1
    ra := own_at h.ra fun k hk => hf k (h.fa k hk).1
    rr := own_at h.rr fun k hk => hf k (h.fr k hk).1
    rc := own_at h.rc fun k hk => hf k (h.fc k hk).1 }
theorem QKp.keep (h : QKp w0 W F G pm vw va vr vc ws nm rs nc xs) (hb : Below W.heap.size W V) : QKp w0 V F G pm vw va vr vc ws nm rs nc xs := h.far hb.size (fun k hk => hb.block k (h.fresh k hk).2) (h.old.trans (hb.mono h.old.size))
/-- One more block for the words of the cells. -/
theorem QKp.addG (h : QKp w0 W F G pm vw va vr vc ws nm rs nc xs) {b : Nat} (h1 : ¬ F b) (h2 : w0.heap.size ≤ b) (h3 : b < W.heap.size) : QKp w0 W (fun k => F k ∨ k = b) (fun k => G k ∨ k = b) pm vw va vr vc ws nm rs nc xs :=
  { h with
    fresh := fun k hk => by
      rcases hk with hk | rfl
      · exact h.fresh k hk
      · exact ⟨h2, h3⟩
    fpm := .inl h.fpm
    gf := fun k hk => by
      rcases hk with hk | rfl
      · exact ⟨.inl (h.gf k hk).1, (h.gf k hk).2⟩
      · exact ⟨.inr rfl, fun e => h1 (e ▸ h.fpm)⟩
    fw := fun k hk => ⟨.inl (h.fw k hk).1, (h.fw k hk).2.1, fun h9 => h9.elim (h.fw k hk).2.2 (fun e => h1 (e ▸ (h.fw k hk).1))⟩
    fa := fun k hk => ⟨.inl (h.fa k hk).1, (h.fa k hk).2.1, fun h9 => h9.elim (h.fa k hk).2.2 (fun e => h1 (e ▸ (h.fa k hk).1))⟩
    fr := fun k hk => ⟨.inl (h.fr k hk).1, (h.fr k hk).2.1, fun h9 => h9.elim (h.fr k hk).2.2 (fun e => h1 (e ▸ (h.fr k hk).1))⟩
    fc := fun k hk => ⟨.inl (h.fc k hk).1, (h.fc k hk).2.1, fun h9 => h9.elim (h.fc k hk).2.2 (fun e => h1 (e ▸ (h.fc k hk).1))⟩ }
/-- The field 0 is another row. -/
theorem QKp.setW (h : QKp w0 W F G pm vw va vr vc ws nm rs nc xs) {v' : Value} {ws' : List Nat} (ho : V.ownsRow w0.heap.size 34 1 v' ws'.length (ws'.map nv)) (hg : W.grownBy V vw.ownBlock) (hat : v'.ownBlock = vw.ownBlock ∨ v'.ownBlock = some W.heap.size) :
    QKp w0 (V.setCell ⟨pm, 0, none⟩ v') (fun k => F k ∨ v'.ownBlock = some k) G pm v' va vr vc ws' nm rs nc xs ∧ Fr (fun k => F k ∧ ¬ G k) W (V.setCell ⟨pm, 0, none⟩ v') := by
  have hpl := h.obj.lt
  have hout : ∀ k, F k → vw.ownBlock ≠ some k → k ≠ pm → (V.setCell ⟨pm, 0, none⟩ v').heap[k]? = W.heap[k]? := fun k hk h1 h2 =>
    (Below.heap_setCell V ⟨pm, 0, none⟩ v' k (fun e => h2 e)).trans (hg.block k (h.fresh k hk).2 (fun e => h1 e.symm))
  have hv' : ∀ k, v'.ownBlock = some k → k ≠ pm ∧ (vw.ownBlock = some k ∨ k = W.heap.size) := fun k hk => by
    rcases hat with h1 | h1
    · rw [h1] at hk
      exact ⟨(h.fw k hk).2.1, .inl hk⟩
    · rw [h1] at hk
      obtain rfl := Option.some.inj hk
      exact ⟨by omega, .inr rfl⟩
  have hfr : Fr (fun k => F k ∧ ¬ G k) W (V.setCell ⟨pm, 0, none⟩ v') := (Fr.of_grown hg fun k hk _ => ⟨(h.fw k hk).1, (h.fw k hk).2.2⟩).same (Fr.setCell _ V (p := ⟨pm, 0, none⟩) (fun _ => ⟨h.fpm, fun h9 => (h.gf pm h9).2 rfl⟩) v')
  have hob : Blk V pm 76 #[vw, va, vr, vc] := h.obj.grown hg (fun e => (h.fw pm e.symm).2.1 rfl)
  have hsz : (V.setCell ⟨pm, 0, none⟩ v').heap.size = V.heap.size := by simp [World.setCell]
  refine ⟨?_, hfr⟩
  exact {
    old := h.old.trans (hfr.below h.old.size fun k hk => (h.fresh k hk.1).1)
    fresh := fun k hk => by
      rcases hk with hk | hk
      · exact ⟨(h.fresh k hk).1, Nat.lt_of_lt_of_le (h.fresh k hk).2 hfr.size⟩
      · obtain ⟨a, b, _⟩ := own_heap ho hk
        exact ⟨a, by rw [hsz]; exact b⟩
    obj := hob.set_ 0 v'
    fpm := .inl h.fpm
    gf := fun k hk => ⟨.inl (h.gf k hk).1, (h.gf k hk).2⟩
    rw := own_at ho fun k hk => Below.heap_setCell V ⟨pm, 0, none⟩ v' k (fun e => (hv' k hk).1 e)
    fw := fun k hk => ⟨.inr hk, (hv' k hk).1, fun h9 => by
      rcases (hv' k hk).2 with h1 | rfl
      · exact (h.fw k h1).2.2 h9
      · exact Nat.lt_irrefl _ (h.fresh _ (h.gf _ h9).1).2⟩
    ra := own_at h.ra fun k hk => hout k (h.fa k hk).1 (fun e => h.nwa k e hk) (h.fa k hk).2.1
    fa := fun k hk => ⟨.inl (h.fa k hk).1, (h.fa k hk).2⟩
    rr := own_at h.rr fun k hk => hout k (h.fr k hk).1 (fun e => h.nwr k e hk) (h.fr k hk).2.1
    fr := fun k hk => ⟨.inl (h.fr k hk).1, (h.fr k hk).2⟩
    rc := own_at h.rc fun k hk => hout k (h.fc k hk).1 (fun e => h.nwc k e hk) (h.fc k hk).2.1
    fc := fun k hk => ⟨.inl (h.fc k hk).1, (h.fc k hk).2⟩
    nwa := fun k hk h9 => by
      rcases (hv' k hk).2 with h1 | rfl
      · exact h.nwa k h1 h9
      · exact Nat.lt_irrefl _ (own_heap h.ra h9).2.1
    nwr := fun k hk h9 => by
      rcases (hv' k hk).2 with h1 | rfl
      · exact h.nwr k h1 h9
      · exact Nat.lt_irrefl _ (own_heap h.rr h9).2.1
    nwc := fun k hk h9 => by
      rcases (hv' k hk).2 with h1 | rfl
      · exact h.nwc k h1 h9
      · exact Nat.lt_irrefl _ (own_heap h.rc h9).2.1
    nar := h.nar
    nac := h.nac
    nrc := h.nrc }
/-- The field 1 is another row. -/
theorem QKp.setA (h : QKp w0 W F G pm vw va vr vc ws nm rs nc xs) {v' : Value} {nm' : List (List UInt8)} (ho : V.ownsRow w0.heap.size 9 1 v' nm'.length (nm'.map hv)) (hg : W.grownBy V va.ownBlock) (hat : v'.ownBlock = va.ownBlock ∨ v'.ownBlock = some W.heap.size) :
    QKp w0 (V.setCell ⟨pm, 1, none⟩ v') (fun k => F k ∨ v'.ownBlock = some k) G pm vw v' vr vc ws nm' rs nc xs ∧ Fr (fun k => F k ∧ ¬ G k) W (V.setCell ⟨pm, 1, none⟩ v') := by
  have hpl := h.obj.lt
  have hout : ∀ k, F k → va.ownBlock ≠ some k → k ≠ pm → (V.setCell ⟨pm, 1, none⟩ v').heap[k]? = W.heap[k]? := fun k hk h1 h2 =>
    (Below.heap_setCell V ⟨pm, 1, none⟩ v' k (fun e => h2 e)).trans (hg.block k (h.fresh k hk).2 (fun e => h1 e.symm))
  have hv' : ∀ k, v'.ownBlock = some k → k ≠ pm ∧ (va.ownBlock = some k ∨ k = W.heap.size) := fun k hk => by
    rcases hat with h1 | h1
    · rw [h1] at hk
      exact ⟨(h.fa k hk).2.1, .inl hk⟩
    · rw [h1] at hk
      obtain rfl := Option.some.inj hk
      exact ⟨by omega, .inr rfl⟩
  have hfr : Fr (fun k => F k ∧ ¬ G k) W (V.setCell ⟨pm, 1, none⟩ v') := (Fr.of_grown hg fun k hk _ => ⟨(h.fa k hk).1, (h.fa k hk).2.2⟩).same (Fr.setCell _ V (p := ⟨pm, 1, none⟩) (fun _ => ⟨h.fpm, fun h9 => (h.gf pm h9).2 rfl⟩) v')
  have hob : Blk V pm 76 #[vw, va, vr, vc] := h.obj.grown hg (fun e => (h.fa pm e.symm).2.1 rfl)
  have hsz : (V.setCell ⟨pm, 1, none⟩ v').heap.size = V.heap.size := by simp [World.setCell]
  refine ⟨?_, hfr⟩
  exact {
    old := h.old.trans (hfr.below h.old.size fun k hk => (h.fresh k hk.1).1)
    fresh := fun k hk => by
      rcases hk with hk | hk
      · exact ⟨(h.fresh k hk).1, Nat.lt_of_lt_of_le (h.fresh k hk).2 hfr.size⟩
      · obtain ⟨a, b, _⟩ := own_heap ho hk
        exact ⟨a, by rw [hsz]; exact b⟩
    obj := hob.set_ 1 v'
    fpm := .inl h.fpm
    gf := fun k hk => ⟨.inl (h.gf k hk).1, (h.gf k hk).2⟩
    rw := own_at h.rw fun k hk => hout k (h.fw k hk).1 (fun e => h.nwa k hk e) (h.fw k hk).2.1
    fw := fun k hk => ⟨.inl (h.fw k hk).1, (h.fw k hk).2⟩
    ra := own_at ho fun k hk => Below.heap_setCell V ⟨pm, 1, none⟩ v' k (fun e => (hv' k hk).1 e)
    fa := fun k hk => ⟨.inr hk, (hv' k hk).1, fun h9 => by
      rcases (hv' k hk).2 with h1 | rfl
      · exact (h.fa k h1).2.2 h9
      · exact Nat.lt_irrefl _ (h.fresh _ (h.gf _ h9).1).2⟩
    rr := own_at h.rr fun k hk => hout k (h.fr k hk).1 (fun e => h.nar k e hk) (h.fr k hk).2.1
    fr := fun k hk => ⟨.inl (h.fr k hk).1, (h.fr k hk).2⟩
    rc := own_at h.rc fun k hk => hout k (h.fc k hk).1 (fun e => h.nac k e hk) (h.fc k hk).2.1
    fc := fun k hk => ⟨.inl (h.fc k hk).1, (h.fc k hk).2⟩
    nwa := fun k h9 hk => by
      rcases (hv' k hk).2 with h1 | rfl
      · exact h.nwa k h9 h1
      · exact Nat.lt_irrefl _ (own_heap h.rw h9).2.1
    nwr := h.nwr
    nwc := h.nwc
    nar := fun k hk h9 => by
      rcases (hv' k hk).2 with h1 | rfl
      · exact h.nar k h1 h9
      · exact Nat.lt_irrefl _ (own_heap h.rr h9).2.1
    nac := fun k hk h9 => by
      rcases (hv' k hk).2 with h1 | rfl
      · exact h.nac k h1 h9
      · exact Nat.lt_irrefl _ (own_heap h.rc h9).2.1
    nrc := h.nrc }
/-- The field 2 is another row. -/
theorem QKp.setR (h : QKp w0 W F G pm vw va vr vc ws nm rs nc xs) {v' : Value} {rs' : List Nat} (ho : V.ownsRow w0.heap.size 34 1 v' rs'.length (rs'.map nv)) (hg : W.grownBy V vr.ownBlock) (hat : v'.ownBlock = vr.ownBlock ∨ v'.ownBlock = some W.heap.size) :
    QKp w0 (V.setCell ⟨pm, 2, none⟩ v') (fun k => F k ∨ v'.ownBlock = some k) G pm vw va v' vc ws nm rs' nc xs ∧ Fr (fun k => F k ∧ ¬ G k) W (V.setCell ⟨pm, 2, none⟩ v') := by
  have hpl := h.obj.lt
  have hout : ∀ k, F k → vr.ownBlock ≠ some k → k ≠ pm → (V.setCell ⟨pm, 2, none⟩ v').heap[k]? = W.heap[k]? := fun k hk h1 h2 =>
    (Below.heap_setCell V ⟨pm, 2, none⟩ v' k (fun e => h2 e)).trans (hg.block k (h.fresh k hk).2 (fun e => h1 e.symm))
  have hv' : ∀ k, v'.ownBlock = some k → k ≠ pm ∧ (vr.ownBlock = some k ∨ k = W.heap.size) := fun k hk => by
    rcases hat with h1 | h1
    · rw [h1] at hk
      exact ⟨(h.fr k hk).2.1, .inl hk⟩
    · rw [h1] at hk
      obtain rfl := Option.some.inj hk
      exact ⟨by omega, .inr rfl⟩
  have hfr : Fr (fun k => F k ∧ ¬ G k) W (V.setCell ⟨pm, 2, none⟩ v') := (Fr.of_grown hg fun k hk _ => ⟨(h.fr k hk).1, (h.fr k hk).2.2⟩).same (Fr.setCell _ V (p := ⟨pm, 2, none⟩) (fun _ => ⟨h.fpm, fun h9 => (h.gf pm h9).2 rfl⟩) v')
  have hob : Blk V pm 76 #[vw, va, vr, vc] := h.obj.grown hg (fun e => (h.fr pm e.symm).2.1 rfl)
  have hsz : (V.setCell ⟨pm, 2, none⟩ v').heap.size = V.heap.size := by simp [World.setCell]
  refine ⟨?_, hfr⟩
  exact {
    old := h.old.trans (hfr.below h.old.size fun k hk => (h.fresh k hk.1).1)
    fresh := fun k hk => by
      rcases hk with hk | hk
      · exact ⟨(h.fresh k hk).1, Nat.lt_of_lt_of_le (h.fresh k hk).2 hfr.size⟩
      · obtain ⟨a, b, _⟩ := own_heap ho hk
        exact ⟨a, by rw [hsz]; exact b⟩
    obj := hob.set_ 2 v'
    fpm := .inl h.fpm
    gf := fun k hk => ⟨.inl (h.gf k hk).1, (h.gf k hk).2⟩
    rw := own_at h.rw fun k hk => hout k (h.fw k hk).1 (fun e => h.nwr k hk e) (h.fw k hk).2.1
    fw := fun k hk => ⟨.inl (h.fw k hk).1, (h.fw k hk).2⟩
    ra := own_at h.ra fun k hk => hout k (h.fa k hk).1 (fun e => h.nar k hk e) (h.fa k hk).2.1
    fa := fun k hk => ⟨.inl (h.fa k hk).1, (h.fa k hk).2⟩
    rr := own_at ho fun k hk => Below.heap_setCell V ⟨pm, 2, none⟩ v' k (fun e => (hv' k hk).1 e)
    fr := fun k hk => ⟨.inr hk, (hv' k hk).1, fun h9 => by
      rcases (hv' k hk).2 with h1 | rfl
      · exact (h.fr k h1).2.2 h9
      · exact Nat.lt_irrefl _ (h.fresh _ (h.gf _ h9).1).2⟩
    rc := own_at h.rc fun k hk => hout k (h.fc k hk).1 (fun e => h.nrc k e hk) (h.fc k hk).2.1
    fc := fun k hk => ⟨.inl (h.fc k hk).1, (h.fc k hk).2⟩
    nwa := h.nwa
    nwr := fun k h9 hk => by
      rcases (hv' k hk).2 with h1 | rfl
      · exact h.nwr k h9 h1
      · exact Nat.lt_irrefl _ (own_heap h.rw h9).2.1
    nwc := h.nwc
    nar := fun k h9 hk => by
      rcases (hv' k hk).2 with h1 | rfl
      · exact h.nar k h9 h1
      · exact Nat.lt_irrefl _ (own_heap h.ra h9).2.1
    nac := h.nac
    nrc := fun k hk h9 => by
      rcases (hv' k hk).2 with h1 | rfl
      · exact h.nrc k h1 h9
      · exact Nat.lt_irrefl _ (own_heap h.rc h9).2.1 }
/-- The field 3 is another row. -/
theorem QKp.setC (h : QKp w0 W F G pm vw va vr vc ws nm rs nc xs) {v' : Value} {nc' : Nat} {xs' : List Value} (ho : V.ownsRow w0.heap.size 138 3 v' nc' xs') (hg : W.grownBy V vc.ownBlock) (hat : v'.ownBlock = vc.ownBlock ∨ v'.ownBlock = some W.heap.size) :
    QKp w0 (V.setCell ⟨pm, 3, none⟩ v') (fun k => F k ∨ v'.ownBlock = some k) G pm vw va vr v' ws nm rs nc' xs' ∧ Fr (fun k => F k ∧ ¬ G k) W (V.setCell ⟨pm, 3, none⟩ v') := by
  have hpl := h.obj.lt
  have hout : ∀ k, F k → vc.ownBlock ≠ some k → k ≠ pm → (V.setCell ⟨pm, 3, none⟩ v').heap[k]? = W.heap[k]? := fun k hk h1 h2 =>
    (Below.heap_setCell V ⟨pm, 3, none⟩ v' k (fun e => h2 e)).trans (hg.block k (h.fresh k hk).2 (fun e => h1 e.symm))
  have hv' : ∀ k, v'.ownBlock = some k → k ≠ pm ∧ (vc.ownBlock = some k ∨ k = W.heap.size) := fun k hk => by
    rcases hat with h1 | h1
    · rw [h1] at hk
      exact ⟨(h.fc k hk).2.1, .inl hk⟩
    · rw [h1] at hk
      obtain rfl := Option.some.inj hk
      exact ⟨by omega, .inr rfl⟩
  have hfr : Fr (fun k => F k ∧ ¬ G k) W (V.setCell ⟨pm, 3, none⟩ v') := (Fr.of_grown hg fun k hk _ => ⟨(h.fc k hk).1, (h.fc k hk).2.2⟩).same (Fr.setCell _ V (p := ⟨pm, 3, none⟩) (fun _ => ⟨h.fpm, fun h9 => (h.gf pm h9).2 rfl⟩) v')
  have hob : Blk V pm 76 #[vw, va, vr, vc] := h.obj.grown hg (fun e => (h.fc pm e.symm).2.1 rfl)
  have hsz : (V.setCell ⟨pm, 3, none⟩ v').heap.size = V.heap.size := by simp [World.setCell]
  refine ⟨?_, hfr⟩
  exact {
    old := h.old.trans (hfr.below h.old.size fun k hk => (h.fresh k hk.1).1)
    fresh := fun k hk => by
      rcases hk with hk | hk
      · exact ⟨(h.fresh k hk).1, Nat.lt_of_lt_of_le (h.fresh k hk).2 hfr.size⟩
      · obtain ⟨a, b, _⟩ := own_heap ho hk
        exact ⟨a, by rw [hsz]; exact b⟩
    obj := hob.set_ 3 v'
    fpm := .inl h.fpm
    gf := fun k hk => ⟨.inl (h.gf k hk).1, (h.gf k hk).2⟩
    rw := own_at h.rw fun k hk => hout k (h.fw k hk).1 (fun e => h.nwc k hk e) (h.fw k hk).2.1
    fw := fun k hk => ⟨.inl (h.fw k hk).1, (h.fw k hk).2⟩
    ra := own_at h.ra fun k hk => hout k (h.fa k hk).1 (fun e => h.nac k hk e) (h.fa k hk).2.1
    fa := fun k hk => ⟨.inl (h.fa k hk).1, (h.fa k hk).2⟩
    rr := own_at h.rr fun k hk => hout k (h.fr k hk).1 (fun e => h.nrc k hk e) (h.fr k hk).2.1
    fr := fun k hk => ⟨.inl (h.fr k hk).1, (h.fr k hk).2⟩
    rc := own_at ho fun k hk => Below.heap_setCell V ⟨pm, 3, none⟩ v' k (fun e => (hv' k hk).1 e)
    fc := fun k hk => ⟨.inr hk, (hv' k hk).1, fun h9 => by
      rcases (hv' k hk).2 with h1 | rfl
      · exact (h.fc k h1).2.2 h9
      · exact Nat.lt_irrefl _ (h.fresh _ (h.gf _ h9).1).2⟩
    nwa := h.nwa
    nwr := h.nwr
    nwc := fun k h9 hk => by
      rcases (hv' k hk).2 with h1 | rfl
      · exact h.nwc k h9 h1
      · exact Nat.lt_irrefl _ (own_heap h.rw h9).2.1
    nar := h.nar
    nac := fun k h9 hk => by
      rcases (hv' k hk).2 with h1 | rfl
      · exact h.nac k h9 h1
      · exact Nat.lt_irrefl _ (own_heap h.ra h9).2.1
    nrc := fun k h9 hk => by
      rcases (hv' k hk).2 with h1 | rfl
      · exact h.nrc k h9 h1
      · exact Nat.lt_irrefl _ (own_heap h.rr h9).2.1 }

/-! ### the cells -/
def cellV (c : Nat × List Nat × Nat) (a : Option Addr × Nat) : List Value := [.int .i64 (c.2.2 : Int), .int .i64 (c.1 : Int), .slice a.1 c.2.1.length a.2]
def cellsK (cs : List (Nat × List Nat × Nat)) (az : List (Option Addr × Nat)) : List Value := (cs.zip az).flatMap fun q => cellV q.1 q.2
theorem flat3_at {α : Type} {f : α → List Value} (hf : ∀ a, (f a).length = 3) : ∀ (l : List α) (k i : Nat) (hk : k < l.length), i < 3 → (l.flatMap f)[k * 3 + i]? = (f l[k])[i]?
  | [], k, i, hk, hi => absurd hk (by simp)
  | a :: r, k, i, hk, hi => by
    rw [List.flatMap_cons]
    cases k with
    | zero => rw [Nat.zero_mul, Nat.zero_add, List.getElem?_append_left (by rw [hf]; exact hi)]; rfl
    | succ k =>
      rw [List.getElem?_append_right (by rw [hf]; omega), hf, show (k + 1) * 3 + i - 3 = k * 3 + i by omega]
      exact flat3_at hf r k i (by simpa using hk) hi
theorem cellsK_snoc {cs : List (Nat × List Nat × Nat)} {az : List (Option Addr × Nat)} (h : az.length = cs.length) (c : Nat × List Nat × Nat) (a : Option Addr × Nat) : cellsK (cs ++ [c]) (az ++ [a]) = cellsK cs az ++ cellV c a := by
  unfold cellsK
  rw [List.zip_append h.symm, List.flatMap_append]
  simp
def KeyC (W : World) (G : Nat → Prop) (A : Option Addr) (w : List Nat) : Prop := w = [] ∨ ∃ b o, A = some ⟨b, o, none⟩ ∧ G b ∧ ∀ (j x : Nat), w[j]? = some x → W.cell? ⟨b, o + j, none⟩ = some (nv x)
def QKeys (W : World) (G : Nat → Prop) (cs : List (Nat × List Nat × Nat)) (az : List (Option Addr × Nat)) : Prop := az.length = cs.length ∧ ∀ (i : Nat) (h : i < cs.length) (h' : i < az.length), KeyC W G az[i].1 cs[i].2.1
theorem KeyC.far {A : Option Addr} {w : List Nat} (h : KeyC W G A w) (hf : ∀ k, G k → V.heap[k]? = W.heap[k]?) : KeyC V G A w := by
  rcases h with h | ⟨b, o, h1, h2, h3⟩
  · exact .inl h
  · refine .inr ⟨b, o, h1, h2, fun j x hj => ?_⟩
    exact (World.cell?_of_block (a := ⟨b, o + j, none⟩) (hf b h2)).trans (h3 j x hj)
theorem QKeys.far {cs : List (Nat × List Nat × Nat)} {az : List (Option Addr × Nat)} (h : QKeys W G cs az) (hf : ∀ k, G k → V.heap[k]? = W.heap[k]?) : QKeys V G cs az := ⟨h.1, fun i h1 h2 => (h.2 i h1 h2).far hf⟩
theorem QKeys.snoc {cs : List (Nat × List Nat × Nat)} {az : List (Option Addr × Nat)} (h : QKeys W G cs az) {b n c tag at_ : Nat} {w : List Nat} {Bq : Nat} (ho : W.ownsRow Bq 34 1 (.slice (some ⟨b, 0, none⟩) n c) n (w.map nv)) : QKeys W (fun k => G k ∨ k = b) (cs ++ [(tag, w, at_)]) (az ++ [(some ⟨b, 0, none⟩, c)]) := by
  refine ⟨by simp [h.1], fun i h1 h2 => ?_⟩
  by_cases hi : i < cs.length
  · have hi' : i < az.length := by rw [h.1]; exact hi
    rw [List.getElem_append_left hi, List.getElem_append_left hi']
    rcases h.2 i hi hi' with h9 | ⟨b', o', e1, e2, e3⟩
    · exact .inl h9
    · exact .inr ⟨b', o', e1, .inl e2, e3⟩
  · have hi' : ¬ i < az.length := by rw [h.1]; exact hi
    have hil : i = cs.length := by simp at h1; omega
    subst hil
    rw [List.getElem_append_right (by omega), List.getElem_append_right (by omega)]
    simp only [h.1, Nat.sub_self, List.getElem_cons_zero]
    refine .inr ⟨b, 0, rfl, .inr rfl, fun j x hj => ?_⟩
    have hc := ho.cells (g := b) rfl j (nv x) (by rw [List.getElem?_map, hj]; rfl)
    rwa [Addr.add_lit] at hc
def QK (w0 W : World) (F : Nat → Prop) (pm : Nat) (st : HSt) (rs : Value × List Nat) : Prop := ∃ vw va vc G az, QKp w0 W F G pm vw va rs.1 vc st.ws st.nm rs.2 st.cs.length (cellsK st.cs az) ∧ QKeys W G st.cs az
theorem QK.far {st : HSt} {rs : Value × List Nat} (h : QK w0 W F pm st rs) (hs : W.heap.size ≤ V.heap.size) (hf : ∀ k, F k → V.heap[k]? = W.heap[k]?) (old : Below w0.heap.size w0 V) : QK w0 V F pm st rs := by
  obtain ⟨vw, va, vc, G, az, h1, h2⟩ := h
  exact ⟨vw, va, vc, G, az, h1.far hs hf old, h2.far fun k hk => hf k (h1.gf k hk).1⟩
theorem QK.old {st : HSt} {rs : Value × List Nat} (h : QK w0 W F pm st rs) : Below w0.heap.size w0 W := by obtain ⟨vw, va, vc, G, az, h, _⟩ := h; exact h.old
theorem QK.fresh {st : HSt} {rs : Value × List Nat} (h : QK w0 W F pm st rs) : ∀ k, F k → w0.heap.size ≤ k ∧ k < W.heap.size := by obtain ⟨vw, va, vc, G, az, h, _⟩ := h; exact h.fresh
theorem QK.keep {st : HSt} {rs : Value × List Nat} (h : QK w0 W F pm st rs) (hb : Below W.heap.size W V) : QK w0 V F pm st rs := h.far hb.size (fun k hk => hb.block k (h.fresh k hk).2) (h.old.trans (hb.mono h.old.size))
theorem QK.grow {st : HSt} {rs : Value × List Nat} {row : Option Nat} (h : QK w0 W F pm st rs) (hg : W.grownBy V row) (hr : ∀ j, row = some j → ¬ F j ∧ w0.heap.size ≤ j) : QK w0 V F pm st rs :=
  h.far hg.size (fun k hk => hg.block k (h.fresh k hk).2 (fun e => (hr k e.symm).1 hk)) (h.old.trans ⟨hg.os, hg.tape, hg.output, hg.size, fun k hk => hg.block k (Nat.lt_of_lt_of_le hk h.old.size) (fun e => by have := (hr k e.symm).2; omega)⟩)
/-- What a method of the maker leaves. -/
def QEnd (w0 W : World) (F : Nat → Prop) (pm : Nat) (r : HSt × Nat) (rs : Value × List Nat) (e : Ending) (W' : World) : Prop :=
  e = .returned (.int .u64 ((r.2 : Nat) : Int)) ∧ ∃ F', QK w0 W' F' pm r.1 rs ∧ (∀ k, F' k → F k ∨ W.heap.size ≤ k) ∧ Fr F W W'
theorem QEnd_eq (w0 W : World) (F : Nat → Prop) (pm : Nat) (r : HSt × Nat) (rs : Value × List Nat) : QEnd w0 W F pm r rs = fun e W' => e = .returned (.int .u64 ((r.2 : Nat) : Int)) ∧ ∃ F', QK w0 W' F' pm r.1 rs ∧ (∀ k, F' k → F k ∨ W.heap.size ≤ k) ∧ Fr F W W' := rfl
end
end
section
open Go.RowKit
set_option linter.unusedVariables false

theorem idxOf_at {l : List (List UInt8)} {s : List UInt8} {i : Nat} (hi : i < l.length) (h : l[i] = s) (hn : s ∉ l.take i) : s ∈ l ∧ l.idxOf s = i := by
  refine ⟨h ▸ List.getElem_mem hi, ?_⟩
  have e : l = l.take i ++ l.drop i := (List.take_append_drop i l).symm
  rw [e, List.idxOf_append, if_neg hn, List.drop_eq_getElem_cons hi, h, List.idxOf_cons_self, List.length_take]
  omega
theorem findC_drop {cs : List (Nat × List Nat × Nat)} {tag : Nat} {w : List Nat} {i : Nat} (h : i < cs.length) : findC (cs.drop i) tag w = if cs[i].1 = tag ∧ cs[i].2.1 = w then some cs[i].2.2 else findC (cs.drop (i + 1)) tag w := by
  rw [List.drop_eq_getElem_cons h]
  unfold findC
  rw [List.find?_cons]
  by_cases hc : cs[i].1 = tag ∧ cs[i].2.1 = w
  · rw [if_pos hc]
    have : (cs[i].1 == tag && cs[i].2.1 == w) = true := by simp [hc.1, hc.2]
    rw [this]
    rfl
  · rw [if_neg hc]
    have : (cs[i].1 == tag && cs[i].2.1 == w) = false := by
      rw [Bool.eq_false_iff]
      intro h9
      simp only [Bool.and_eq_true, beq_iff_eq] at h9
      exact hc h9
    rw [this]
theorem KeyC.rdc {W : World} {G : Nat → Prop} {A : Option Addr} {w : List Nat} (h : KeyC W G A w) : RdC W A (w.map nv) := by
  rcases h with rfl | ⟨b, o, h1, _, h3⟩
  · exact .inl rfl
  · refine .inr ⟨b, o, h1, fun j v hj => ?_⟩
    rw [List.getElem?_map] at hj
    cases hx : w[j]? with
    | none => rw [hx] at hj; cases hj
    | some x =>
      rw [hx] at hj
      simp only [Option.map_some, Option.some.injEq] at hj
      subst hj
      exact h3 j x hx
theorem own_cell3 {V : World} {B n cap : Nat} {A : Option Addr} {e : TypeId} {cs : List (Nat × List Nat × Nat)} {az : List (Option Addr × Nat)} (ho : V.ownsRow B e 3 (.slice A n cap) n (cellsK cs az)) (hn : cs.length = n) (hq : az.length = cs.length) {k : Nat} (hk : k < cs.length) (hk' : k < az.length) :
    ∃ g, A = some ⟨g, 0, none⟩ ∧ V.cell? ⟨g, k * 3, none⟩ = some (.int .i64 (cs[k].2.2 : Int)) ∧ V.cell? ⟨g, k * 3 + 1, none⟩ = some (.int .i64 (cs[k].1 : Int)) ∧ V.cell? ⟨g, k * 3 + 2, none⟩ = some (.slice az[k].1 cs[k].2.1.length az[k].2) := by
  rcases ho.2 with ⟨hv, hz⟩ | ⟨g, cap', cur, hv, _, hg, hnc, _, _, htake⟩
  · omega
  · obtain ⟨rfl, _, rfl⟩ := Value.slice.inj hv
    refine ⟨g, rfl, ?_⟩
    have hkz : k < (cs.zip az).length := by rw [List.length_zip]; omega
    have hc : ∀ i, (hi : i < 3) → V.cell? ⟨g, k * 3 + i, none⟩ = (cellV cs[k] az[k])[i]? := fun i hi => by
      have e := flat3_at (f := fun q : (Nat × List Nat × Nat) × (Option Addr × Nat) => cellV q.1 q.2) (fun _ => rfl) (cs.zip az) k i hkz hi
      rw [List.getElem_zip] at e
      have := ho.cells (g := g) rfl (k * 3 + i) ((cellV cs[k] az[k])[i]'(by simp [cellV]; exact hi)) (by unfold cellsK; rw [e, List.getElem?_eq_getElem])
      rw [Addr.add_lit, Nat.zero_add] at this
      rw [this, List.getElem?_eq_getElem]
    exact ⟨hc 0 (by omega), hc 1 (by omega), hc 2 (by omega)⟩
section
variable {w0 W V V' : World} {F : Nat → Prop} {pm : Nat} {st : HSt} {rs : Value × List Nat}
set_option maxRecDepth 100000 in
set_option maxHeartbeats 1000000 in
theorem ratom_v (h : QK w0 W F pm st rs) (s : List UInt8) (hl : st.nm.length ≤ 1000000) :
    Calls Try.prog 66 #[.pointer (some ⟨pm, 0, none⟩), .string ⟨s.toArray⟩] W (QEnd w0 W F pm (atomS st s) rs) := by
  obtain ⟨vw, va, vc, G, az, h, hk⟩ := h
  obtain ⟨Aa, ca, hva⟩ := own_sl h.ra
  obtain ⟨nn, hnn⟩ : ∃ nn, st.nm.length = nn := ⟨_, rfl⟩
  rw [hnn] at hva hl
  subst hva
  have c1 := h.obj.cell 1
  have hr : W.ownsRow w0.heap.size 9 1 (.slice Aa nn ca) nn (st.nm.map hv) := by have h9 := h.ra; rw [hnn] at h9; exact h9
  have HH := Lib.hid h
  have HK := Lib.hid hk
  have HN := Lib.hid hnn
  have HR := Lib.hid hr
  clear h hk hnn hr
  go_enter Try.func66, Try.ntmps66
  go_wp2
  go_loop [5] (fun v => ∃ i : Nat, i ≤ nn ∧ v = .int .i64 (i : Int) ∧ s ∉ st.nm.take i) (fun v => nn - (intOf v).toNat)
  case atStart => exact ⟨0, Nat.zero_le _, rfl, by simp⟩
  case round =>
    obtain ⟨j, hj, rfl, hno⟩ := hrel
    have HNO := Lib.hid hno
    clear hno
    by_cases hlt : j < nn
    · have hd1 : decide (j < nn) = true := by simp; omega
      have hkl : j < st.nm.length := by rw [HN.out]; exact hlt
      obtain ⟨b1, o1, rfl, cc⟩ := (rdc_own HR.out).at_ (j := j) (v := hv st.nm[j]) (by simp [hkl])
      unfold hv at cc
      have hq1 : (0 : Int) ≤ (j : Int) := by omega
      have hq2 : (j : Int) < (nn : Int) := by omega
      have HT := Lib.hid (show st.nm.take (j + 1) = st.nm.take j ++ [st.nm[j]] from List.take_succ_eq_append_getElem hkl)
      have HIX := Lib.hid (fun h9 : st.nm[j] = s => idxOf_at hkl h9 HNO.out)
      generalize st.nm[j] = x at *
      clear hkl
      by_cases hxs : x = s
      · subst hxs
        obtain ⟨i1, i2⟩ := HIX.out rfl
        have HE := Lib.hid (show atomS st x = (st, 8 * j + 1) from by unfold atomS; rw [if_pos i1, i2])
        have hne : ¬ ((j : Int) = (nn : Int)) := by omega
        have d1 : ((j : Int) == (nn : Int)) = false := by simpa using hne
        clear i1 i2 HIX
        go_wp2
        go_ret
        rw [HE.out]
        exact ⟨by first | rfl | (congr 2; omega), F, ⟨_, _, _, _, _, by have h9 := HH.out; exact h9, HK.out⟩, fun k hk => .inl hk, Fr.refl _ _⟩
      · have e1 : (x == s) = false := by simpa using hxs
        have HE := Lib.hid (show s ∉ st.nm.take (j + 1) by rw [HT.out]; simp only [List.mem_append, List.mem_singleton, not_or]; exact ⟨HNO.out, fun e => hxs e.symm⟩)
        go_wp2
        go_round
        case rel => exact ⟨j + 1, by omega, by go_num, HE.out⟩
        case measure => simp [intOf]; omega
    · obtain rfl : nn = j := by omega
      have hd1 : decide (nn < nn) = false := by simp
      have hm : s ∉ st.nm := by
        have h9 := HNO.out
        rw [List.take_of_length_le (by rw [HN.out]; exact Nat.le_refl _)] at h9
        exact h9
      have HE := Lib.hid (show atomS st s = (⟨st.ws, st.nm ++ [s], st.cs⟩, 8 * nn + 1) from by unfold atomS; rw [if_neg hm, List.idxOf_eq_length hm, HN.out])
      have hz := HH.out.obj.frozen 1
      have hw0 := HH.out.old.size
      clear hm
      go_upto_region 6 with (at_builtin; go_loud (refine wpList_app htextsT rfl (.tmp 41) (.tmp 43) rfl w0.heap.size (.slice Aa nn ca) nn (st.nm.map hv) rfl (own_far HR.out (below_alloc _ _)) (some ⟨W.heap.size, 0, none⟩) 1 1 [hv s] rfl rfl (blk_cs (Blk.new W _ _)) (hv_one [s]) (by unfold maxLen; omega) (by omega) (Nat.le_trans hw0 (below_alloc _ _).size) ?_); intro v3 w3 ho3 hg3 hat3; obtain ⟨A3, c3, rfl⟩ := own_sl ho3; have HO3 := Lib.hid ho3; have HG3 := Lib.hid hg3; have HA3 := Lib.hid hat3; have hc3 : w3.cell? ⟨pm, 1, none⟩ = some (.slice Aa nn ca) := (by have h9 := (((HH.out.obj.alloc (.cells #[hv s] 9))).grown hg3 (fun e => (HH.out.fa pm e.symm).2.1 rfl)).cell 1; exact h9); have hz3 : w3.frozen? ⟨pm, 1, none⟩ = false := (((HH.out.obj.alloc (.cells #[hv s] 9))).grown hg3 (fun e => (HH.out.fa pm e.symm).2.1 rfl)).frozen 1; clear ho3 hg3 hat3)
      have hA := HH.out.keep (below_alloc W (.cells #[hv s] 9))
      obtain ⟨g1, g2⟩ := hA.setA (nm' := st.nm ++ [s]) (by simpa [HN.out] using HO3.out) HG3.out HA3.out
      have G2 := Lib.hid ((Fr.alloc F W (.cells #[hv s] 9)).same (g2.weak fun _ _ h9 => h9.1))
      have hK9 : QKeys (w3.setCell ⟨pm, 1, none⟩ (.slice A3 (nn + 1) c3)) G st.cs az := HK.out.far fun k hk => by
        obtain ⟨k1, k2⟩ := HH.out.gf k hk
        have hkl := (HH.out.fresh k k1).2
        rw [Below.heap_setCell w3 ⟨pm, 1, none⟩ _ k k2, HG3.out.block k (Nat.lt_of_lt_of_le hkl (below_alloc W _).size) (fun e => (HH.out.fa k e.symm).2.2 hk)]
        exact Below.heap_alloc W _ k hkl
      have H9 := Lib.hid (show ∃ F', QK w0 (w3.setCell ⟨pm, 1, none⟩ (.slice A3 (nn + 1) c3)) F' pm ⟨st.ws, st.nm ++ [s], st.cs⟩ rs ∧ (∀ k, F' k → F k ∨ W.heap.size ≤ k) from ⟨_, ⟨_, _, _, _, _, g1, hK9⟩, fun k hk => by
        rcases hk with hk | hk
        · exact .inl hk
        · rcases HA3.out with h9 | h9
          · exact .inl (HH.out.fa k (by rw [← h9]; exact hk)).1
          · rw [h9] at hk
            obtain rfl := Option.some.inj hk
            exact .inr (below_alloc W _).size⟩)
      refine wp_world (fun V2 => (∃ F', QK w0 V2 F' pm ⟨st.ws, st.nm ++ [s], st.cs⟩ rs ∧ (∀ k, F' k → F k ∨ W.heap.size ≤ k)) ∧ Fr F W V2) ⟨H9.out, G2.out⟩ ?_
      clear hA g1 g2 G2 HO3 HG3 HA3 hc3 hz3 hz hw0 hK9 H9 HR c1
      rintro V2 ⟨h9, f9⟩
      have H9 := Lib.hid h9
      have F9 := Lib.hid f9
      clear h9 f9
      go_wp2
      go_ret
      rw [HE.out]
      obtain ⟨F', k1, k2⟩ := H9.out
      exact ⟨by first | rfl | (congr 2; omega), F', k1, k2, F9.out⟩
end
end
section
open Go.RowKit
set_option linter.unusedVariables false

section
variable {w0 W V V' : World} {F : Nat → Prop} {pm : Nat} {st : HSt} {rs : Value × List Nat}
/-- What the document's cell leaves: the block of the words is the maker's now. -/
def QEndC (w0 W : World) (F : Nat → Prop) (pm b : Nat) (r : HSt × Nat) (rs : Value × List Nat) (e : Ending) (W' : World) : Prop :=
  e = .returned (.int .u64 ((r.2 : Nat) : Int)) ∧ ∃ F', QK w0 W' F' pm r.1 rs ∧ (∀ k, F' k → F k ∨ k = b ∨ W.heap.size ≤ k) ∧ Fr F W W'
set_option maxRecDepth 100000 in
set_option maxHeartbeats 2000000 in
theorem rcell_v (h : QK w0 W F pm st rs) (hok : HOk st) (hlen : ∀ c ∈ st.cs, c.2.1.length ≤ 1000000) (tag : Nat) (ht : tag < 8) {Bq b nw cw : Nat} {w : List Nat} (hw : W.ownsRow Bq 34 1 (.slice (some ⟨b, 0, none⟩) nw cw) nw (w.map nv)) (hbF : ¬ F b) (hBq : w0.heap.size ≤ Bq) (hn : nw ≤ 1000000) (hl : st.ws.length ≤ 1000000) (hc : st.cs.length ≤ 1000000) :
    Calls Try.prog 67 #[.pointer (some ⟨pm, 0, none⟩), .int .i64 (tag : Int), .slice (some ⟨b, 0, none⟩) nw cw] W (QEndC w0 W F pm b (cellS st tag w) rs) := by
  obtain ⟨vw, va, vc, G, az, h, hk⟩ := h
  obtain ⟨hb1, hb2, _⟩ := own_heap hw (k := b) rfl
  have hwl : w.length = nw := (own_rdk hw).2
  obtain ⟨Aw, dw, hvw⟩ := own_sl h.rw
  obtain ⟨Ac, dc, hvc⟩ := own_sl h.rc
  obtain ⟨nn, hnn⟩ : ∃ nn, st.cs.length = nn := ⟨_, rfl⟩
  obtain ⟨mm, hmm⟩ : ∃ mm, st.ws.length = mm := ⟨_, rfl⟩
  rw [hnn] at hvc hc
  rw [hmm] at hvw hl
  subst hvc hvw
  have c0 := h.obj.cell 0
  have c3 := h.obj.cell 3
  have hr : W.ownsRow w0.heap.size 138 3 (.slice Ac nn dc) nn (cellsK st.cs az) := by have h9 := h.rc; rw [hnn] at h9; exact h9
  have hrw : W.ownsRow w0.heap.size 34 1 (.slice Aw mm dw) mm (st.ws.map nv) := by have h9 := h.rw; rw [hmm] at h9; exact h9
  have HH := Lib.hid h
  have HK := Lib.hid hk
  have HN := Lib.hid hnn
  have HM := Lib.hid hmm
  have HR := Lib.hid hr
  have HRW := Lib.hid hrw
  have HW9 := Lib.hid hw
  have HWL := Lib.hid hwl
  have HBF := Lib.hid hbF
  have HBB := Lib.hid (And.intro hBq (And.intro hb1 hb2))
  have HOK := Lib.hid hok
  have HLN := Lib.hid hlen
  clear h hk hnn hmm hr hrw hw hwl hbF hBq hb1 hb2 hok hlen
  go_enter Try.func67, Try.ntmps67
  go_wp2
  go_loopw [7] (fun v wr => ∃ i : Nat, i ≤ nn ∧ v = .int .i64 (i : Int) ∧ findC st.cs tag w = findC (st.cs.drop i) tag w ∧ Below W.heap.size W wr) (fun v _ => nn - (intOf v).toNat)
  case atStart => exact ⟨0, Nat.zero_le _, rfl, rfl, Below.refl _ _⟩
  case round =>
    obtain ⟨j, hj, rfl, hg, hbl⟩ := hrel
    have HG := Lib.hid hg
    have HBL := Lib.hid hbl
    clear hg
    by_cases hlt : j < nn
    · have hd1 : decide (j < nn) = true := by simp; omega
      have hkl : j < st.cs.length := by rw [HN.out]; exact hlt
      have hkl' : j < az.length := by rw [HK.out.1]; exact hkl
      obtain ⟨g, rfl, e0', e1', e2'⟩ := own_cell3 HR.out HN.out HK.out.1 hkl hkl'
      have HCELL := Lib.hid (fun V (hV : Below W.heap.size W V) => (⟨(hV.cell (World.block_lt_of_cell? W _ e0')).trans e0', (hV.cell (World.block_lt_of_cell? W _ e1')).trans e1', (hV.cell (World.block_lt_of_cell? W _ e2')).trans e2', (hV.cell (World.block_lt_of_cell? W _ c3)).trans c3⟩ : V.cell? ⟨g, j * 3, none⟩ = _ ∧ V.cell? ⟨g, j * 3 + 1, none⟩ = _ ∧ V.cell? ⟨g, j * 3 + 2, none⟩ = _ ∧ V.cell? ⟨pm, 3, none⟩ = _))
      clear e0' e1' e2'
      have HD := Lib.hid (findC_drop (tag := tag) (w := w) hkl)
      have hmem : st.cs[j] ∈ st.cs := List.getElem_mem hkl
      have HKJ := Lib.hid (HK.out.2 j hkl hkl').rdc
      obtain ⟨q1, q2, q3⟩ := HOK.out.c64 _ hmem
      have q4 := HLN.out _ hmem
      rw [HM.out] at q3
      generalize st.cs[j] = x at *
      generalize az[j] = y at *
      obtain ⟨t1, w1, a1⟩ := x
      obtain ⟨A1, k1⟩ := y
      simp only at HCELL HD HKJ q1 q2 q3 q4
      obtain ⟨n1, hn1⟩ : ∃ n1, w1.length = n1 := ⟨_, rfl⟩
      rw [hn1] at HCELL q4
      have hq1 : (0 : Int) ≤ (j : Int) := by omega
      have hq2 : (j : Int) < (nn : Int) := by omega
      have HSM := Lib.hid (fun V (hV : Below W.heap.size W V) => rsame_v w1 w A1 (some ⟨b, 0, none⟩) n1 k1 nw cw V (HKJ.out.below hV) ((rdc_own HW9.out).below hV) hn1 HWL.out q4 hn)
      obtain ⟨e0, e1, e2, p3⟩ := HCELL.out wr hbl
      clear hkl hkl' hmem q2 hn1 HKJ hbl
      by_cases htt : t1 = tag
      · subst htt
        by_cases hww : w1 = w
        · have HE := Lib.hid (show cellS st t1 w = (st, 8 * a1 + t1) from by
            have h9 : findC st.cs t1 w = some a1 := by rw [HG.out, HD.out, if_pos ⟨rfl, hww⟩]
            unfold cellS
            rw [h9])
          have HWW := Lib.hid (show decide (w1 = w) = true from by simp [hww])
          clear hww HD
          go_upto_region 5 with (go_at_call 38; refine (HSM.out wr HBL.out).mono ?_; rintro e w' ⟨rfl, hb'⟩; rw [HWW.out])
          refine wp_world (fun V => Below W.heap.size W V) (below_step HBL.out hb') ?_
          clear hb' HBL HSM e0 e1 e2 p3
          intro V hV
          obtain ⟨e0, e1, e2, p3⟩ := HCELL.out V hV
          have HV := Lib.hid hV
          have r1 : a1 ≤ 1000000 := by omega
          clear HCELL hV e1 e2
          go_wp2
          go_ret
          rw [HE.out]
          exact ⟨by first | rfl | (congr 2; omega), F, QK.keep ⟨_, _, _, _, _, HH.out, HK.out⟩ HV.out, fun k hk => .inl hk, Fr.of_below HV.out F⟩
        · have HE := Lib.hid (show findC st.cs t1 w = findC (st.cs.drop (j + 1)) t1 w by rw [HG.out, HD.out, if_neg (fun h9 => hww h9.2)])
          have HWW := Lib.hid (show decide (w1 = w) = false from by simp [hww])
          clear hww HD HCELL
          go_wp2_with (go_at_call 38; refine (HSM.out wr HBL.out).mono ?_; rintro e w' ⟨rfl, hb'⟩; rw [HWW.out]; have HV := Lib.hid (below_step HBL.out hb'); clear hb')
          go_roundw
          case rel => exact ⟨j + 1, by omega, by go_num, HE.out, HV.out⟩
          case measure => simp [intOf]; omega
      · have HE := Lib.hid (show findC st.cs tag w = findC (st.cs.drop (j + 1)) tag w by rw [HG.out, HD.out, if_neg (fun h9 => htt h9.1)])
        have d1 : ((t1 : Int) == (tag : Int)) = false := by simpa using fun h => htt (by omega)
        clear HD HSM htt HCELL
        go_wp2
        go_roundw
        case rel => exact ⟨j + 1, by omega, by go_num, HE.out, HBL.out⟩
        case measure => simp [intOf]; omega
    · obtain rfl : nn = j := by omega
      have hd1 : decide (nn < nn) = false := by simp
      have HFC := Lib.hid (show findC st.cs tag w = none by rw [HG.out, show nn = st.cs.length from HN.out.symm, List.drop_length]; rfl)
      have HE := Lib.hid (show cellS st tag w = (⟨st.ws ++ w, st.nm, st.cs ++ [(tag, w, mm)]⟩, 8 * mm + tag) from by unfold cellS; rw [HFC.out, HM.out])
      have hH2 := HH.out.keep hbl
      have hK2 : QKeys wr G st.cs az := HK.out.far fun k hk => hbl.block k (HH.out.fresh k (HH.out.gf k hk).1).2
      have hW2 := own_far HW9.out hbl
      have hf2 := Fr.of_below hbl F
      refine wp_world (fun V => QKp w0 V F G pm (.slice Aw mm dw) va rs.1 (.slice Ac nn dc) st.ws st.nm rs.2 st.cs.length (cellsK st.cs az) ∧ QKeys V G st.cs az ∧ V.ownsRow Bq 34 1 (.slice (some ⟨b, 0, none⟩) nw cw) nw (w.map nv) ∧ Fr F W V) ⟨hH2, hK2, hW2, hf2⟩ ?_
      clear hH2 hK2 hW2 hf2 c0 c3 HH HK HR HRW HW9 HG HBL hbl
      rintro V ⟨hH2, hK2, hW2, hf2⟩
      have HH := Lib.hid hH2
      have HK := Lib.hid hK2
      have HW9 := Lib.hid hW2
      have HF := Lib.hid hf2
      have HR := Lib.hid (show V.ownsRow w0.heap.size 138 3 (.slice Ac nn dc) nn (cellsK st.cs az) by have h9 := hH2.rc; rw [HN.out] at h9; exact h9)
      have hw0 := hH2.old.size
      have c0 := hH2.obj.cell 0
      have c3 := hH2.obj.cell 3
      clear hH2 hK2 hW2 hf2
      go_upto_region 8 with (at_builtin; refine wpList_app cellT rfl (.tmp 62) (.tmp 67) rfl w0.heap.size (.slice Ac nn dc) nn (cellsK st.cs az) rfl (own_far HR.out (below_alloc _ _)) (some ⟨V.heap.size, 0, none⟩) 1 1 (cellV (tag, w, mm) (some ⟨b, 0, none⟩, cw)) (by first | rfl | (simp [cellV, HWL.out])) rfl (by first | exact blk_cs (Blk.new V _ _) | (simp only [cellV, HWL.out]; exact blk_cs (Blk.new V _ _))) (by intro u hu; simp only [cellV, List.mem_cons, List.mem_nil_iff, or_false] at hu; rcases hu with rfl | rfl | rfl <;> rfl) (by unfold maxLen; omega) (by omega) (Nat.le_trans hw0 (below_alloc _ _).size) ?_; intro v3 w3 ho3 hg3 hat3; obtain ⟨A3, c3', rfl⟩ := own_sl ho3; have HO3 := Lib.hid ho3; have HG3 := Lib.hid hg3; have HA3 := Lib.hid hat3; have hc3 : w3.cell? ⟨pm, 3, none⟩ = some (.slice Ac nn dc) := (by have h9 := ((HH.out.obj.alloc _).grown hg3 (fun e => (HH.out.fc pm e.symm).2.1 rfl)).cell 3; exact h9); have hz3 : w3.frozen? ⟨pm, 3, none⟩ = false := ((HH.out.obj.alloc _).grown hg3 (fun e => (HH.out.fc pm e.symm).2.1 rfl)).frozen 3; clear ho3 hg3 hat3)
      obtain ⟨ob, hob⟩ : ∃ ob : Obj, Obj.cells #[.int .i64 (mm : Int), .int .i64 (tag : Int), .slice (some ⟨b, 0, none⟩) nw cw] 138 = ob := ⟨_, rfl⟩
      rw [hob] at HG3 HA3
      have hA := HH.out.keep (below_alloc V ob)
      have hcl : cellV (tag, w, mm) (some ⟨b, 0, none⟩, cw) = [.int .i64 (mm : Int), .int .i64 (tag : Int), .slice (some ⟨b, 0, none⟩) nw cw] := by simp [cellV, HWL.out]
      obtain ⟨g1, g2⟩ := hA.setC (nc' := (st.cs ++ [(tag, w, mm)]).length) (xs' := cellsK (st.cs ++ [(tag, w, mm)]) (az ++ [(some ⟨b, 0, none⟩, cw)])) (by rw [cellsK_snoc HK.out.1, hcl]; simpa [HN.out, cellV, HWL.out] using HO3.out) HG3.out HA3.out
      have hbV : b < V.heap.size := Nat.lt_of_lt_of_le HBB.out.2.2 HF.out.size
      have hvb : ∀ k, (Value.slice A3 (nn + 1) c3').ownBlock = some k → (F k ∧ ¬ G k) ∨ V.heap.size ≤ k := fun k hk => by
        rcases HA3.out with h9 | h9
        · rw [h9] at hk
          exact .inl ⟨(HH.out.fc k hk).1, (HH.out.fc k hk).2.2⟩
        · rw [h9] at hk
          have h8 := Option.some.inj hk
          exact .inr (by have h7 := (below_alloc V ob).size; omega)
      obtain ⟨V3, hV3⟩ : ∃ V3, w3.setCell ⟨pm, 3, none⟩ (.slice A3 (nn + 1) c3') = V3 := ⟨_, rfl⟩
      rw [hV3] at g1 g2
      have hfr3 : Fr (fun k => F k ∧ ¬ G k) V V3 := (Fr.alloc _ V ob).same g2
      have hb3 : b < V3.heap.size := Nat.lt_of_lt_of_le hbV hfr3.size
      have g3 := g1.addG (b := b) (fun h9 => by
        rcases h9 with h9 | h9
        · exact HBF.out h9
        · rcases hvb b h9 with h8 | h8
          · exact HBF.out h8.1
          · omega) (Nat.le_trans HBB.out.1 HBB.out.2.1) hb3
      have hw3 : V3.ownsRow Bq 34 1 (.slice (some ⟨b, 0, none⟩) nw cw) nw (w.map nv) := own_at HW9.out fun k hk => by
        obtain rfl := Option.some.inj hk
        exact hfr3.block _ hbV (fun h9 => HBF.out h9.1)
      have hk3 := (HK.out.far (V := V3) fun k hk => hfr3.block k (HH.out.fresh k (HH.out.gf k hk).1).2 (fun h9 => h9.2 hk)).snoc (tag := tag) (at_ := mm) hw3
      rw [hV3]
      refine wp_world (fun V3 => ∃ F' G' az' vc', QKp w0 V3 F' G' pm (.slice Aw mm dw) va rs.1 vc' st.ws st.nm rs.2 (st.cs ++ [(tag, w, mm)]).length (cellsK (st.cs ++ [(tag, w, mm)]) az') ∧ QKeys V3 G' (st.cs ++ [(tag, w, mm)]) az' ∧ V3.ownsRow Bq 34 1 (.slice (some ⟨b, 0, none⟩) nw cw) nw (w.map nv) ∧ (∀ k, F' k → F k ∨ k = b ∨ W.heap.size ≤ k) ∧ G' b ∧ Fr F W V3) ⟨_, _, _, _, g3, hk3, hw3, fun k hk => ?_, .inr rfl, HF.out.trans hfr3 fun k hk h9 => h9.1⟩ ?_
      · rcases hk with (hk | hk) | rfl
        · exact .inl hk
        · rcases hvb k hk with h8 | h8
          · exact .inl h8.1
          · exact .inr (.inr (Nat.le_trans HF.out.size h8))
        · exact .inr (.inl rfl)
      clear g1 g2 g3 hfr3 hb3 hw3 hk3 hA hvb hcl HO3 HG3 HA3 hc3 hz3 hV3 hbV HH HK HF HR HW9 hw0 c0 c3
      rintro V3 ⟨F', G', az', vc', hH, hK, hW, hs, hgb, hf⟩
      have HH := Lib.hid hH
      have HK := Lib.hid hK
      have HW9 := Lib.hid hW
      have HS := Lib.hid hs
      have HGB := Lib.hid hgb
      have HF := Lib.hid hf
      have hw0 := hH.old.size
      have c0 := hH.obj.cell 0
      have HR := Lib.hid (show V3.ownsRow w0.heap.size 34 1 (.slice Aw mm dw) mm (st.ws.map nv) by have h9 := hH.rw; rw [HM.out] at h9; exact h9)
      clear hH hK hW hs hgb hf
      go_upto_region 9 with (at_builtin; refine wpList_app uintsT rfl (.tmp 76) (.tmp 77) rfl w0.heap.size (.slice Aw mm dw) mm (st.ws.map nv) rfl HR.out (some ⟨b, 0, none⟩) nw cw (w.map nv) rfl (by rw [List.length_map, HWL.out, Nat.mul_one]) (own_cs HW9.out) (nv_one w) (by unfold maxLen; omega) (by omega) hw0 ?_; intro v4 w4 ho4 hg4 hat4; obtain ⟨A4, c4, rfl⟩ := own_sl ho4; have HO4 := Lib.hid ho4; have HG4 := Lib.hid hg4; have HA4 := Lib.hid hat4; have hc4 : w4.cell? ⟨pm, 0, none⟩ = some (.slice Aw mm dw) := (by have h9 := (HH.out.obj.grown hg4 (fun e => (HH.out.fw pm e.symm).2.1 rfl)).cell 0; exact h9); have hz4 : w4.frozen? ⟨pm, 0, none⟩ = false := (HH.out.obj.grown hg4 (fun e => (HH.out.fw pm e.symm).2.1 rfl)).frozen 0; clear ho4 hg4 hat4)
      obtain ⟨g1, g2⟩ := HH.out.setW (ws' := st.ws ++ w) (by simpa [HM.out, HWL.out] using HO4.out) HG4.out HA4.out
      have hk4 := HK.out.far fun k hk => g2.block k (HH.out.fresh k (HH.out.gf k hk).1).2 (fun h9 => h9.2 hk)
      have HEND := Lib.hid (show ∃ F'', QK w0 (w4.setCell ⟨pm, 0, none⟩ (.slice A4 (mm + nw) c4)) F'' pm ⟨st.ws ++ w, st.nm, st.cs ++ [(tag, w, mm)]⟩ rs ∧ (∀ k, F'' k → F k ∨ k = b ∨ W.heap.size ≤ k) ∧ Fr F W (w4.setCell ⟨pm, 0, none⟩ (.slice A4 (mm + nw) c4)) from ⟨_, ⟨_, _, _, _, _, g1, hk4⟩, fun k hk => by
        rcases hk with hk | hk
        · exact HS.out k hk
        · rcases HA4.out with h9 | h9
          · exact HS.out k (HH.out.fw k (by rw [← h9]; exact hk)).1
          · rw [h9] at hk
            obtain rfl := Option.some.inj hk
            exact .inr (.inr HF.out.size), HF.out.trans g2 fun k hk h9 => by
        rcases HS.out k h9.1 with h8 | h8 | h8
        · exact h8
        · exact absurd (h8 ▸ HGB.out) h9.2
        · omega⟩)
      clear g1 g2 hk4 HO4 HG4 HA4 hc4 hz4 HH HK HF HR HW9 hw0 c0 HS HGB
      go_wp2
      go_ret
      rw [HE.out]
      exact ⟨by first | rfl | (congr 2; omega), HEND.out⟩
end
end
end Go.Proofs.Ytefnjplfemgibaa
