/- Maps of the call's own: an entry is found, then stored into (two operations); sorted lists of bytes. No program is named here. -/
import Derived.Test.YtmpknhdfglbocaaGreatFr
import Derived.Maps.OwnSet
import Derived.WideKeyEntry
import Derived.ChangeMaps5
import Derived.Maps.StringElems
import Derived.Sort.KeysCollected
namespace Go.Proofs.YtmpknhdfglbocaaGreat
open Go.RowKit Go.Maps Go.MapKept
open Go.WideElems (findIdx_born findIdx_arr modify_last set_self Fit rd rg pl)
open Go.ChangeMaps (setBlock modify_eq_set heap_setBlock_same heap_setBlock_other)
set_option linter.unusedVariables false

section
variable {H : Type} {P : Program} {w : World} {t k e : TypeId} {R : Value → Option (DataW H × List MemPlace)} {b n : Nat} {D : DataW H}

/-- The bound is what is there. -/
theorem owns_size (h : w.ownsMap P k R b n D) : w.ownsMap P k R b (Maps.size D) D := by
  obtain ⟨es, clock, hb, F, hs, rfl⟩ := h
  exact ⟨es, clock, hb, F, by simp [Maps.size, length_sorted], rfl⟩
theorem owns_fr {F : Nat → Prop} {w' : World} (h : w.ownsMap P k R b n D) (hf : Fr F w w') (hn : ¬ F b) : w'.ownsMap P k R b n D := by
  have hlt := h.lt
  obtain ⟨es, clock, hb, r⟩ := h
  exact ⟨es, clock, (hf.block b hlt hn).trans hb, r⟩
theorem owns_keep {w' : World} (h : w.ownsMap P k R b n D) (hb : Below w.heap.size w w') : w'.ownsMap P k R b n D := owns_fr h (Fr.of_below hb (fun _ => False)) (fun h => h)
end

/-! ### lists of bytes in their order -/
theorem before_iff : ∀ (a b : List UInt8), bytesBefore a b = true ↔ a < b
  | [], [] => by simp [bytesBefore]
  | [], _ :: _ => by simp [bytesBefore]
  | _ :: _, [] => by simp [bytesBefore]
  | a :: r, b :: s => by
    have ih := before_iff r s
    simp only [bytesBefore, Bool.or_eq_true, decide_eq_true_eq, Bool.and_eq_true, beq_iff_eq, ih, List.cons_lt_cons_iff]
end Go.Proofs.YtmpknhdfglbocaaGreat
