/- The plain law of DiskOff: writes, the power off, writes, the power back. And what else of memory an act leaves. -/
import Derived.Test.YtclbhhgifjegiaaCutsW
namespace Go.Proofs.Ytclbhhgifjegiaa
open Go.RowKit
set_option linter.unusedVariables false

/-- A disk of 16 blocks with the power on. -/
structure OnInv (D : DS) (j : Nat) : Prop where
  ok : D.Ok
  size : D.size = 64
  nb : D.nb = 16
  off : D.off = false
  left : D.left = -1
  log : D.log.length ≤ j

theorem on_start : OnInv (DS.fresh 16 64) 0 := ⟨DS.fresh_ok (by omega) (by omega) (by omega) (by omega), rfl, rfl, rfl, rfl, Nat.le_refl _⟩
theorem on_write {D : DS} {j : Nat} (h : OnInv D j) (hj : j ≤ 1000) (N : Int) (p : List UInt8) : OnInv (D.write N p).2 (j + 1) := by
  have ok2 : (D.write N p).2.Ok := DS.write_ok_ h.ok (by have := h.log; omega)
  have hlg := h.log
  refine ⟨ok2, ?_, ?_, ?_, ?_, ?_⟩
  all_goals
    unfold DS.write
    split
    · first | exact h.size | exact h.nb | exact h.off | exact h.left | (have := h.log; show D.log.length ≤ _; omega)
    · split
      · first | exact h.size | exact h.nb | exact h.off | exact h.left | (show D.log.length ≤ _; omega)
      · split
        · first | exact h.size | exact h.nb | exact h.off | exact h.left | (show D.log.length ≤ _; omega)
        · split
          · rename_i hz
            rw [h.left] at hz
            cases hz
          · first | exact h.size | exact h.nb | exact h.off | (show (if 0 < D.left then D.left - 1 else D.left) = -1; rw [h.left]; rfl) | (show (D.log ++ [N]).length ≤ _; simp; omega)

/-- The disk D with the power about to go, or gone. -/
structure GoneInv (D E : DS) : Prop where
  ok : E.Ok
  size : E.size = 64
  nb : E.nb = 16
  left : E.left = 0
  bytes : E.bytes = D.bytes
  log : E.log = D.log

theorem gone_start {D : DS} {j : Nat} (h : OnInv D j) : GoneInv D (D.cut 0) := by
  have e : D.cut 0 = { D with left := 0 } := by
    unfold DS.cut
    rw [if_neg (by rw [h.off]; simp)]
    rfl
  rw [e]
  exact ⟨⟨h.ok.s1, h.ok.s2, h.ok.n1, h.ok.n2, h.ok.len, by show (-1 : Int) ≤ 0; omega, by show (0 : Int) ≤ _; omega, h.ok.lg⟩, h.size, h.nb, rfl, rfl, rfl⟩
theorem gone_write {D E : DS} (h : GoneInv D E) (N : Int) (p : List UInt8) : GoneInv D (E.write N p).2 ∧ (((E.write N p).1 : Int) == 0) = false := by
  unfold DS.write
  split
  · exact ⟨h, rfl⟩
  · split
    · exact ⟨h, rfl⟩
    · split
      · exact ⟨h, rfl⟩
      · rw [if_pos h.left]
        exact ⟨⟨⟨h.ok.s1, h.ok.s2, h.ok.n1, h.ok.n2, h.ok.len, h.ok.l1, h.ok.l2, h.ok.lg⟩, h.size, h.nb, h.left, h.bytes, h.log⟩, rfl⟩
theorem gone_dead {D E : DS} (h : GoneInv D E) : (E.write 0 []).1 = 20 ∧ (E.write 0 []).2.off = true ∧ GoneInv D (E.write 0 []).2 := by
  refine ⟨?_, ?_, (gone_write h 0 []).1⟩
  all_goals
    unfold DS.write
    rw [if_neg (by simp [DS.hasB, h.nb]), if_neg (by simp)]
    cases ho : E.off with
    | true =>
      rw [if_pos rfl]
      all_goals exact ho
    | false => rw [if_neg (by simp), if_pos h.left]
theorem gone_cut {E : DS} (h : E.off = true) (a : Int) : E.cut a = E := by
  unfold DS.cut
  rw [if_pos h]
theorem gone_read {D E : DS} (h : GoneInv D E) (ho : E.off = true) : E.read 1 = (20, []) := by
  unfold DS.read
  rw [if_neg (by simp [DS.hasB, h.nb]), if_pos ho]
theorem on_read {D : DS} {j : Nat} (h : OnInv D j) (i : Nat) (hi : i < 16) : D.read i = (0, D.blockB i) := by
  rw [read_done (d := D) (n := (i : Int)) (by rw [h.nb]; omega) h.off, Int.toNat_natCast]
theorem back_read {D E : DS} {j : Nat} (hD : OnInv D j) (h : GoneInv D E) (i : Nat) (hi : i < 16) : E.back.read i = (0, D.blockB i) := by
  rw [read_done (d := E.back) (n := (i : Int)) (by show 0 ≤ (i : Int) ∧ (i : Int) < E.nb; rw [h.nb]; omega) rfl, Int.toNat_natCast]
  unfold DS.blockB
  show (0, (E.bytes.drop (i * E.size)).take E.size) = _
  rw [h.bytes, h.size, hD.size]
theorem back_write {D E : DS} (h : GoneInv D E) : (E.back.write 0 []).1 = 0 := by
  unfold DS.write
  rw [if_neg (by simp [DS.hasB, DS.back, h.nb]), if_neg (by simp), if_neg (by simp [DS.back]), if_neg (by show ¬ ((-1 : Int) = 0); omega)]

/-- Strings in a block from its head on. -/
def RdS (w : World) (g : Nat) (ss : List (List UInt8)) : Prop := g < w.heap.size ∧ ∀ j, (h : j < ss.length) → w.cell? ⟨g, j, none⟩ = some (sv ss[j])
theorem RdS.below {w w' : World} {g : Nat} {ss : List (List UInt8)} (h : RdS w g ss) (hb : Below w.heap.size w w') : RdS w' g ss :=
  ⟨Nat.lt_of_lt_of_le h.1 hb.size, fun j hj => (hb.cell (p := ⟨g, j, none⟩) h.1).trans (h.2 j hj)⟩
theorem Acts.strs {W w' : World} {pd : Nat} {p p' : Pl} {d' : DS} {g : Nat} {ss : List (List UInt8)} (hA : Acts W pd p d' w' p') (h : RdS W g ss) (hn : ¬ p.F pd g) : RdS w' g ss ∧ ¬ p'.F pd g :=
  ⟨⟨Nat.lt_of_lt_of_le h.1 hA.fr.size, fun j hj => (World.cell?_of_block (hA.fr.block g h.1 hn)).trans (h.2 j hj)⟩, fun hf => by
    rcases hA.grown g hf with h1 | h1
    · exact hn h1
    · have := h.1; omega⟩

/-- A block that is not the disk's grows. -/
theorem Own.grownFar {w0 W W' : World} {pd : Nat} {p : Pl} {d : DS} {row : Option Nat} (h : Own w0 pd p d W) (hg : W.grownBy W' row) (hn : ∀ k, row = some k → ¬ p.F pd k ∧ w0.heap.size ≤ k) : Own w0 pd p d W' := by
  have hD := h.disk
  have ne : ∀ k, p.F pd k → some k ≠ row := fun k hk e => (hn k e.symm).1 hk
  have hlt : p.ch < W.heap.size := (Array.getElem?_eq_some_iff.1 hD.chan).1
  refine ⟨⟨hD.obj.grown hg (ne _ (.inl rfl)), hD.row.grown hg (ne _ (.inr (.inl rfl))), hD.cap, hD.capm, ?_, ?_⟩, h.bel.grown hg h.bel.size (fun k hk => (hn k hk).2), h.own⟩
  · refine hD.log.kept hg ?_
    cases hk : p.lv.ownBlock with
    | none => exact .inl rfl
    | some k => exact .inr (ne k (.inr (.inr (.inl hk))))
  · exact (hg.block _ hlt (ne _ (.inr (.inr (.inr rfl))))).trans hD.chan

/-- Write without parts. -/
theorem write_own0 {w0 W : World} {pd : Nat} {p : Pl} {d : DS} {n : Int} (hO : Own w0 pd p d W) (ok : d.Ok) :
    Calls Try.prog 13 #[.pointer (some ⟨pd, 0, none⟩), .int .i64 n, .slice none 0 0] W fun e w' => e = .returned (.int .i64 (d.write n []).1) ∧ ∃ p', Own w0 pd p' (d.write n []).2 w' ∧ Acts W pd p (d.write n []).2 w' p' := by
  refine (write_any (n := n) (c := 0) (A := none) (ls := []) (l := []) (m := 0) hO.disk ok rfl rfl (by omega) (by simp) (.inl rfl)).mono ?_
  rintro e w' ⟨he, p', hA⟩
  exact ⟨he, p', hO.act hA, hA⟩

theorem strsT : ElT Try.prog 31 9 (.string ⟨#[]⟩) 1 16 := ⟨Try.underlying31, by kernel_rfl, rfl, by omega⟩
theorem svs_one (l : List (List UInt8)) : ∀ u ∈ l.map sv, u.oneCell' = true := by
  intro u hu
  obtain ⟨c, _, rfl⟩ := List.mem_map.1 hu
  rfl
theorem own_strs {w : World} {base e : Nat} {v : Value} {n : Nat} {ss : List (List UInt8)} (h : w.ownsRow base e 1 v n (ss.map sv)) (hn : 0 < n) : ∃ g c, v = .slice (some ⟨g, 0, none⟩) n c ∧ RdS w g ss ∧ base ≤ g := by
  have hl : ss.length = n := by have := h.1; simpa using this
  rcases h.2 with ⟨rfl, rfl⟩ | ⟨g, cap, cur, rfl, hbg, hg, hnc, _, _, htake⟩
  · omega
  · refine ⟨g, cap, rfl, ⟨(Array.getElem?_eq_some_iff.1 hg).1, fun j hj => ?_⟩, hbg⟩
    have hc := h.cells (g := g) rfl j (sv ss[j]) (by simp [hj])
    rw [Addr.add_lit] at hc
    simpa using hc
end Go.Proofs.Ytclbhhgifjegiaa
