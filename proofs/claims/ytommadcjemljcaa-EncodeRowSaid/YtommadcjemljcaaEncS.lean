/- Layer 8: the reader in memory; sound. -/
import Derived.Test.YtommadcjemljcaaEncR
import Derived.Test.YtommadcjemljcaaRdX
import Derived.Test.YtommadcjemljcaaTapeD
namespace Go.Proofs.Ytommadcjemljcaa
open Go.RowKit
set_option linter.unusedVariables false

/-- The reader: its tape, how many parts may still come. -/
structure RS (pr pt : Nat) (A : Option Addr) (c : Nat) (t : TS) (left : Int) (W : World) : Prop where
  tape : TapeAt pt A c t W
  box : Blk W pr 53 #[.pointer (some ⟨pt, 0, none⟩), .int .i64 left]
  ne : pt ≠ pr
  ne2 : ∀ b off, A = some ⟨b, off, none⟩ → b ≠ pr
section
variable {pr pt : Nat} {A : Option Addr} {c : Nat} {t t' : TS} {left left' : Int} {W W' : World}
theorem RS.keep (h : RS pr pt A c t left W) (hb : Below W.heap.size W W') : RS pr pt A c t left W' := ⟨h.tape.keep hb, h.box.keep hb, h.ne, h.ne2⟩
theorem RS.far {F : Nat → Prop} (h : RS pr pt A c t left W) (hf : Fr F W W') (h1 : ¬ F pt) (h2 : ¬ F pr) (h3 : ∀ b off, A = some ⟨b, off, none⟩ → ¬ F b) : RS pr pt A c t left W' := ⟨h.tape.far hf h1 h3, hf.blk h.box h2, h.ne, h.ne2⟩
theorem RS.act (h : RS pr pt A c t left W) (a : TAct W pt A c t' W') : RS pr pt A c t' left W' := ⟨a.tape, a.fr.blk h.box (fun e => h.ne e.symm), h.ne, h.ne2⟩
theorem RS.dec (h : RS pr pt A c t left W) (z : Int) : RS pr pt A c t z (W.setCell ⟨pr, 1, none⟩ (.int .i64 z)) :=
  ⟨h.tape.far (Fr.setCell (fun k => k = pr) W (p := ⟨pr, 1, none⟩) (fun _ => rfl) _) h.ne h.ne2, h.box.set_ 1 _, h.ne, h.ne2⟩
theorem RS.lt (h : RS pr pt A c t left W) : pr < W.heap.size ∧ pt < W.heap.size := ⟨h.box.lt, h.tape.obj.lt⟩

set_option maxHeartbeats 400000 in
theorem sound_any (h : RS pr pt A c t left W) : Calls Try.prog 26 #[.pointer (some ⟨pr, 0, none⟩)] W fun r w' => r = .returned (.bool (decide (t.fault = 0) && decide (0 ≤ left))) ∧ ∃ q, w' = W.drewN q := by
  have HF := Lib.hid (fault_any h.tape)
  have HB : Hid (∀ q, (W.drewN q).cell? ⟨pr, 0, none⟩ = some (.pointer (some ⟨pt, 0, none⟩)) ∧ (W.drewN q).cell? ⟨pr, 1, none⟩ = some (.int .i64 left)) := fun q => ⟨(h.box.keep (below_drewN (Below.refl _ _) q)).cell 0, (h.box.keep (below_drewN (Below.refl _ _) q)).cell 1⟩
  have c0 := h.box.cell 0
  have c1 := h.box.cell 1
  clear h
  by_cases hf : t.fault = 0
  · have HR := Lib.hid (show (decide (t.fault = 0) && decide (0 ≤ left)) = decide (0 ≤ left) by simp [hf])
    rw [hf] at HF
    clear hf
    go_enter Try.func26, Try.ntmps26
    go_wp2_with (go_at_call 50; refine HF.out.mono ?_; rintro r w2 ⟨rfl, q, rfl⟩; obtain ⟨g0, g1⟩ := HB.out q)
    go_ret
    exact ⟨by rw [HR.out]; rfl, q, rfl⟩
  · have HR := Lib.hid (show (decide (t.fault = 0) && decide (0 ≤ left)) = false by simp [hf])
    have hd : ((t.fault : Int) == 0) = false := by simp; omega
    clear hf
    go_enter Try.func26, Try.ntmps26
    go_wp2_with (go_at_call 50; refine HF.out.mono ?_; rintro r w2 ⟨rfl, q, rfl⟩; obtain ⟨g0, g1⟩ := HB.out q)
    go_ret
    exact ⟨by rw [HR.out]; rfl, q, rfl⟩
end
end Go.Proofs.Ytommadcjemljcaa
