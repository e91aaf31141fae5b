/- The law's all of layer 17: its end, without the code. -/
import Derived.Test.YthmlpiiajlfmcaaMAllA
namespace Go.Proofs.Ythmlpiiajlfmcaa
open Go.RowKit Go.Shelf
set_option linter.unusedVariables false

theorem own_base {W : World} {base base' e size n : Nat} {v : Value} {xs : List Value} (h : W.ownsRow base e size v n xs) (hb : base' ≤ base) : W.ownsRow base' e size v n xs := by
  refine ⟨h.1, ?_⟩
  rcases h.2 with h1 | ⟨g, cap, cur, hv, h2, h3⟩
  · exact .inl h1
  · exact .inr ⟨g, cap, cur, hv, Nat.le_trans hb h2, h3⟩
theorem own_ne {W : World} {base e size n g D : Nat} {v : Value} {xs : List Value} {o : Obj} (h : W.ownsRow base e size v n xs) (hg : v.ownBlock = some g) (hD : W.heap[D]? = some o) (ho : o.isCells = false) : g ≠ D := by
  rintro rfl
  rw [own_isCells h hg hD] at ho
  cases ho
theorem all_end {w0 w X W0 V : World} {A : Option Addr} {c D D2 : Nat} {es : List (TE w0)} (hsz : W0.heap.size = w.heap.size + 4) (hr1 : Blk X w.heap.size 23 #[.slice none 0 0]) (hr2 : Blk X (w.heap.size + 1) 4 #[.bool false])
    (ho : X.ownsRow W0.heap.size 35 4 (.slice A es.length c) es.length (cellsL es)) (hb : Below w.heap.size w X) (hK : X.heap[D]? = some (.deferred (some []))) (hK2 : X.heap[D2]? = some (.deferred (some []))) (hne : D ≠ D2) (hD : W0.heap.size ≤ D) (hD2 : W0.heap.size ≤ D2)
    (hV : V = ((X.setCell ⟨w.heap.size, 0, none⟩ (.slice A es.length c)).setCell ⟨w.heap.size + 1, 0, none⟩ (.bool true)).drew) :
    ∃ V8 V9, (Instr.takeDeferred D2).run Try.prog V = .ok [] V8 ∧ (Instr.takeDeferred D).run Try.prog V8 = .ok [] V9 ∧ V9.cell? ⟨w.heap.size, 0, none⟩ = some (.slice A es.length c) ∧ V9.cell? ⟨w.heap.size + 1, 0, none⟩ = some (.bool true) ∧ V9.ownsRow w.heap.size 35 4 (.slice A es.length c) es.length (cellsL es) ∧ Below w.heap.size w V9 := by
  have f1 : Fr (fun k => k = w.heap.size) X (X.setCell ⟨w.heap.size, 0, none⟩ (.slice A es.length c)) := Fr.setCell (fun k => k = w.heap.size) X (p := ⟨w.heap.size, 0, none⟩) (fun _ => rfl) _
  have f2 : Fr (fun k => k = w.heap.size + 1) (X.setCell ⟨w.heap.size, 0, none⟩ (.slice A es.length c)) V := by
    rw [hV]
    exact (Fr.setCell (fun k => k = w.heap.size + 1) _ (p := ⟨w.heap.size + 1, 0, none⟩) (fun _ => rfl) _).drew
  have b1 : Blk V w.heap.size 23 #[.slice A es.length c] := f2.blk (hr1.set_ 0 _) (by omega)
  have b2 : Blk V (w.heap.size + 1) 4 #[.bool true] := by
    have := (f1.blk hr2 (by omega)).set_ 0 (.bool true)
    rw [hV]
    exact this.keep (Below.refl _ _).drew
  have hKV : V.heap[D]? = some (.deferred (some [])) := (f2.block D (by have := (Array.getElem?_eq_some_iff.1 hK).1; have := f1.size; omega) (by omega)).trans ((f1.block D (Array.getElem?_eq_some_iff.1 hK).1 (by omega)).trans hK)
  have hKV2 : V.heap[D2]? = some (.deferred (some [])) := (f2.block D2 (by have := (Array.getElem?_eq_some_iff.1 hK2).1; have := f1.size; omega) (by omega)).trans ((f1.block D2 (Array.getElem?_eq_some_iff.1 hK2).1 (by omega)).trans hK2)
  have f3 : Fr (fun k => k = D2) V (V.putObj D2 (.deferred none)) := Fr.of_grown (grownBy_putObj' V D2 _) (fun k e _ => by cases e; rfl)
  have hKV3 : (V.putObj D2 (.deferred none)).heap[D]? = some (.deferred (some [])) := (f3.block D (Array.getElem?_eq_some_iff.1 hKV).1 hne).trans hKV
  have f4 : Fr (fun k => k = D) (V.putObj D2 (.deferred none)) ((V.putObj D2 (.deferred none)).putObj D (.deferred none)) := Fr.of_grown (grownBy_putObj' _ D _) (fun k e _ => by cases e; rfl)
  have o1 := own_fr (own_fr ho f1 (fun g hg => by have := (World.ownsRow.lt ho g hg).1; omega)) f2 (fun g hg => by have := (World.ownsRow.lt ho g hg).1; omega)
  have o2 := own_fr (own_fr o1 f3 (fun g hg => own_ne ho hg hK2 rfl)) f4 (fun g hg => own_ne ho hg hK rfl)
  refine ⟨_, _, run_takeDeferred hKV2, run_takeDeferred hKV3, (f4.blk (f3.blk b1 (by omega)) (by omega)).cell 0, (f4.blk (f3.blk b2 (by omega)) (by omega)).cell 0, own_base o2 (by omega), ?_⟩
  have s1 := hb.size
  have s2 := f1.size
  have s3 := f2.size
  have s4 := f3.size
  exact (((hb.trans (f1.below (by omega) (fun k e => by omega))).trans (f2.below (by omega) (fun k e => by omega))).trans (f3.below (by omega) (fun k e => by omega))).trans (f4.below (by omega) (fun k e => by omega))
end Go.Proofs.Ythmlpiiajlfmcaa
