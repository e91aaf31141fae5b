/- The plain law of DiskCuts: what a script of writes behind a cut leaves. -/
import Derived.Test.YtclbhhgifjegiaaHuge
namespace Go.Proofs.Ytclbhhgifjegiaa
open Go.RowKit
set_option linter.unusedVariables false

structure CutsInv (n : Nat) (D : DS) (done : Nat) (want : List (List UInt8)) : Prop where
  ok : D.Ok
  size : D.size = 64
  nb : D.nb = 16
  len : want.length = 16
  w64 : ∀ i, (h : i < want.length) → want[i].length ≤ 64
  blk : ∀ i, (h : i < want.length) → D.blockB i = padB 64 want[i]
  log : D.log.length = done
  le : done ≤ n
  on : D.off = false → D.left = (n : Int) - done
  off : D.off = true → done = n

/-- Such a write is right. -/
def rightB (N : Int) (p : List UInt8) : Prop := 0 ≤ N ∧ N < 16 ∧ p.length ≤ 64

theorem cuts_start (n : Nat) (hn : n ≤ 150) : CutsInv n ((DS.fresh 16 64).cut n) 0 (List.replicate 16 []) := by
  have ok0 : (DS.fresh 16 64).Ok := DS.fresh_ok (by omega) (by omega) (by omega) (by omega)
  have e : (DS.fresh 16 64).cut n = { DS.fresh 16 64 with left := (n : Int) } := by
    unfold DS.cut
    rw [if_neg (by show ¬ false = true; simp), show max (n : Int) (-1) = n from by omega]
  rw [e]
  refine ⟨⟨ok0.s1, ok0.s2, ok0.n1, ok0.n2, ok0.len, by show (-1 : Int) ≤ n; omega, by show (n : Int) ≤ _; omega, ok0.lg⟩, rfl, rfl, by simp, fun i h => by rw [List.getElem_replicate]; simp, fun i h => ?_, rfl, by omega, fun _ => by simp, fun h => by cases h⟩
  have := fresh_block 16 64 i (by simpa using h)
  simp only [List.getElem_replicate]
  exact this

section
variable {n : Nat} {D : DS} {done : Nat} {want : List (List UInt8)} {N : Int} {p : List UInt8}
theorem cuts_no (h : CutsInv n D done want) (hr : ¬ rightB N p) : ∃ r, D.write N p = (r, D) ∧ (r = 1 ∨ r = 2) := by
  unfold DS.write
  by_cases h1 : D.hasB N = false
  · exact ⟨2, by rw [if_pos h1], .inr rfl⟩
  · have h2 : 0 ≤ N ∧ N < D.nb := by simpa [DS.hasB] using h1
    rw [h.nb] at h2
    refine ⟨1, ?_, .inl rfl⟩
    rw [if_neg h1, if_pos]
    rw [h.size]
    unfold rightB at hr
    omega
theorem cuts_on (h : CutsInv n D done want) (hlt : done < n) : D.off = false ∧ D.left ≠ 0 := by
  have h1 : D.off = false := by
    cases ho : D.off with
    | false => rfl
    | true => have := h.off ho; omega
  exact ⟨h1, by rw [h.on h1]; omega⟩
theorem cuts_yes (h : CutsInv n D done want) (hr : rightB N p) (hlt : done < n) (hn : n ≤ 150) : (D.write N p).1 = 0 ∧ CutsInv n (D.write N p).2 (done + 1) (want.set N.toNat p) := by
  obtain ⟨h1, h2, h3⟩ := hr
  obtain ⟨g1, g2⟩ := cuts_on h hlt
  have hb := write_block (d := D) (n := N) (l := p) h.ok (by rw [h.nb]; omega) (by rw [h.size]; exact h3) g1 g2
  have e := write_done (d := D) (n := N) (l := p) (by rw [h.nb]; omega) (by rw [h.size]; exact h3) g1 g2
  have ok2 : (D.write N p).2.Ok := DS.write_ok_ h.ok (by rw [h.log]; omega)
  refine ⟨by rw [e], ok2, ?_, ?_, by simp [h.len], fun i hi => ?_, fun i hi => ?_, ?_, by omega, fun _ => ?_, fun ho => ?_⟩
  · rw [e]; exact h.size
  · rw [e]; exact h.nb
  · rw [List.getElem_set]
    split
    · exact h3
    · exact h.w64 i (by simpa using hi)
  · have hi2 : i < 16 := by have := h.len; simp at hi; omega
    rw [hb i (by rw [h.nb]; exact hi2), List.getElem_set, h.size]
    by_cases hin : (i : Int) = N
    · rw [if_pos hin, if_pos (by omega)]
    · rw [if_neg hin, if_neg (by omega)]
      exact h.blk i (by simpa using hi)
  · rw [e]
    show (D.log ++ [N]).length = _
    simp [h.log]
  · rw [e]
    show (if 0 < D.left then D.left - 1 else D.left) = _
    have := h.on g1
    rw [if_pos (by omega)]
    omega
  · rw [e] at ho
    rw [show ({ D with bytes := putBlock D.bytes (N.toNat * D.size) D.size p, log := D.log ++ [N], left := if 0 < D.left then D.left - 1 else D.left } : DS).off = D.off from rfl, g1] at ho
    cases ho
theorem cuts_dead (h : CutsInv n D done want) (hr : rightB N p) (hlt : done = n) : (D.write N p).1 = 20 ∧ CutsInv n (D.write N p).2 done want := by
  obtain ⟨h1, h2, h3⟩ := hr
  have hh : ¬ D.hasB N = false := by
    have : 0 ≤ N ∧ N < D.nb := by rw [h.nb]; omega
    simp [DS.hasB]; omega
  unfold DS.write
  rw [if_neg hh, if_neg (by rw [h.size]; omega)]
  cases ho : D.off with
  | true => rw [if_pos rfl]; exact ⟨rfl, h⟩
  | false =>
    rw [if_neg (by simp), if_pos (by rw [h.on ho]; omega)]
    exact ⟨rfl, ⟨h.ok.s1, h.ok.s2, h.ok.n1, h.ok.n2, h.ok.len, h.ok.l1, h.ok.l2, h.ok.lg⟩, h.size, h.nb, h.len, h.w64, h.blk, h.log, h.le, fun hf => (by cases hf), fun _ => hlt⟩
end

/-- The power comes back. -/
def DS.back (D : DS) : DS := { D with left := -1, off := false }
theorem back_ok {D : DS} (ok : D.Ok) : D.back.Ok := ⟨ok.s1, ok.s2, ok.n1, ok.n2, ok.len, by show (-1 : Int) ≤ -1; omega, by show (-1 : Int) ≤ _; omega, ok.lg⟩
theorem cuts_read {n : Nat} {D : DS} {done : Nat} {want : List (List UInt8)} (h : CutsInv n D done want) (i : Nat) (hi : i < want.length) : D.back.read i = (0, padB 64 want[i]) := by
  rw [read_done (d := D.back) (n := (i : Int)) (by show 0 ≤ (i : Int) ∧ (i : Int) < D.nb; rw [h.nb]; have := h.len; omega) rfl, Int.toNat_natCast]
  rw [← h.blk i hi]
  rfl
end Go.Proofs.Ytclbhhgifjegiaa
