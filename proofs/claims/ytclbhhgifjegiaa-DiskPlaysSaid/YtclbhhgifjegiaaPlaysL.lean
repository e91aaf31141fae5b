/- The plain law of DiskPlays: the disk and the reference's disk go alike. And both in memory. -/
import Derived.Test.YtclbhhgifjegiaaCopy
namespace Go.Proofs.Ytclbhhgifjegiaa
open Go.RowKit
set_option linter.unusedVariables false

structure Sim (D : DS) (R : RS) : Prop where
  dok : D.Ok
  rok : R.Ok
  nb : R.n = D.nb
  size : R.size = D.size
  log : R.w = D.log
  left : R.left = D.left
  off : R.off = D.off
  blk : ∀ i, (h : i < R.b.length) → D.blockB i = padB D.size R.b[i]

theorem sim_fresh {nb size : Nat} (h1 : 1 ≤ nb) (h2 : nb ≤ 16384) (h3 : 64 ≤ size) (h4 : size ≤ 4096) : Sim (DS.fresh nb size) (RS.fresh nb size) :=
  ⟨DS.fresh_ok h1 h2 h3 h4, RS.fresh_ok h1 h2 h3 h4, rfl, rfl, rfl, rfl, rfl, fun i h => by
    have hi : i < nb := by simpa [RS.fresh] using h
    rw [fresh_block nb size i hi]
    simp [RS.fresh, DS.fresh]⟩

theorem sim_write {D : DS} {R : RS} (h : Sim D R) (n : Int) (p : List UInt8) (hlg : D.log.length + 1 ≤ 1000000) : (R.write n p).1 = (D.write n p).1 ∧ Sim (D.write n p).2 (R.write n p).2 ∧ (D.write n p).2.log.length ≤ D.log.length + 1 := by
  have dok2 : (D.write n p).2.Ok := DS.write_ok_ h.dok hlg
  by_cases h1 : n < 0 ∨ (R.n : Int) ≤ n
  · have e1 : R.write n p = (2, R) := by unfold RS.write; rw [if_pos h1]
    have e2 : D.write n p = (2, D) := by
      unfold DS.write
      rw [if_pos]
      rw [h.nb] at h1
      simp [DS.hasB]
      omega
    rw [e1, e2]
    exact ⟨rfl, h, Nat.le_succ _⟩
  · have hb : 0 ≤ n ∧ n < D.nb := by rw [h.nb] at h1; omega
    have hh : ¬ D.hasB n = false := by simp [DS.hasB]; omega
    by_cases h2 : R.size < p.length
    · have e1 : R.write n p = (1, R) := by unfold RS.write; rw [if_neg h1, if_pos h2]
      have e2 : D.write n p = (1, D) := by unfold DS.write; rw [if_neg hh, if_pos (by rw [← h.size]; exact h2)]
      rw [e1, e2]
      exact ⟨rfl, h, Nat.le_succ _⟩
    · by_cases h3 : R.off = true ∨ R.left = 0
      · have e1 : R.write n p = (20, { R with off := true }) := by unfold RS.write; rw [if_neg h1, if_neg h2, if_pos h3]
        have e2 : (D.write n p).1 = 20 ∧ (D.write n p).2 = { D with off := true } := by
          unfold DS.write
          rw [if_neg hh, if_neg (by rw [← h.size]; exact h2)]
          by_cases ho : D.off = true
          · rw [if_pos ho]
            exact ⟨rfl, by rw [← ho]⟩
          · rw [if_neg ho, if_pos]
            · exact ⟨rfl, rfl⟩
            · rw [h.off] at h3
              rw [← h.left]
              exact h3.resolve_left ho
        rw [e1, e2.1, e2.2]
        rw [e2.2] at dok2
        exact ⟨rfl, ⟨dok2, ⟨h.rok.n1, h.rok.n2, h.rok.s1, h.rok.s2, h.rok.l1, h.rok.l2, h.rok.lg, h.rok.len, h.rok.bs⟩, h.nb, h.size, h.log, h.left, rfl, h.blk⟩, by show D.log.length ≤ _; omega⟩
      · have ho : D.off = false := by
          cases hf : D.off with
          | false => rfl
          | true => exact absurd (.inl (h.off.trans hf)) h3
        have hlf : D.left ≠ 0 := fun e => h3 (.inr (h.left.trans e))
        have hl : p.length ≤ D.size := by have := h.size; omega
        have e1 : R.write n p = (0, { R with left := if 0 < R.left then R.left - 1 else R.left, b := R.b.set n.toNat p, w := R.w ++ [n] }) := by unfold RS.write; rw [if_neg h1, if_neg h2, if_neg h3]
        have e2 := write_done (d := D) (n := n) (l := p) hb hl ho hlf
        have hbl := write_block (d := D) (n := n) (l := p) h.dok hb hl ho hlf
        have hl1 := h.rok.l1
        have hl2 := h.rok.l2
        rw [e1, e2]
        rw [e2] at dok2 hbl
        refine ⟨rfl, ⟨dok2, ⟨h.rok.n1, h.rok.n2, h.rok.s1, h.rok.s2, ?_, ?_, ?_, ?_, ?_⟩, h.nb, h.size, ?_, ?_, h.off, ?_⟩, by show (D.log ++ [n]).length ≤ _; simp⟩
        · show -1 ≤ (if 0 < R.left then R.left - 1 else R.left)
          split <;> omega
        · show (if 0 < R.left then R.left - 1 else R.left) ≤ _
          split <;> omega
        · show (R.w ++ [n]).length ≤ _
          rw [h.log]
          simp
          omega
        · show (R.b.set n.toNat p).length = R.n
          rw [List.length_set]
          exact h.rok.len
        · intro i hi
          show ((R.b.set n.toNat p)[i]'hi).length ≤ R.size
          rw [List.getElem_set]
          split
          · omega
          · exact h.rok.bs i _
        · show R.w ++ [n] = D.log ++ [n]
          rw [h.log]
        · show (if 0 < R.left then R.left - 1 else R.left) = (if 0 < D.left then D.left - 1 else D.left)
          rw [h.left]
        · intro i hi
          have hi2 : i < R.b.length := by simpa using hi
          have hi3 : i < D.nb := by rw [← h.nb, ← h.rok.len]; exact hi2
          rw [hbl i hi3]
          show _ = padB D.size ((R.b.set n.toNat p)[i]'hi)
          rw [List.getElem_set]
          by_cases hin : (i : Int) = n
          · rw [if_pos hin, if_pos (by omega)]
          · rw [if_neg hin, if_neg (by omega)]
            exact h.blk i hi2
theorem sim_read {D : DS} {R : RS} (h : Sim D R) (n : Int) : R.read n = D.read n := by
  unfold RS.read
  by_cases h1 : n < 0 ∨ (R.n : Int) ≤ n
  · rw [if_pos h1]
    unfold DS.read
    rw [if_pos]
    rw [h.nb] at h1
    simp [DS.hasB]
    omega
  · have hh : ¬ D.hasB n = false := by rw [h.nb] at h1; simp [DS.hasB]; omega
    rw [if_neg h1]
    unfold DS.read
    rw [if_neg hh, h.off]
    by_cases ho : D.off = true
    · rw [if_pos ho, if_pos ho]
    · rw [if_neg ho, if_neg ho]
      have hi : n.toNat < R.b.length := by rw [h.rok.len]; omega
      rw [h.blk n.toNat hi, h.size, List.getD_eq_getElem?_getD, List.getElem?_eq_getElem hi]
      rfl
theorem sim_cut {D : DS} {R : RS} (h : Sim D R) (a : Int) (h1 : a ≤ 9223372036854775807) : Sim (D.cut a) (R.cut a) ∧ (D.cut a).log = D.log := by
  unfold DS.cut RS.cut
  rw [h.off]
  by_cases ho : D.off = true
  · rw [if_pos ho, if_pos ho]
    exact ⟨h, rfl⟩
  · rw [if_neg ho, if_neg ho]
    exact ⟨⟨⟨h.dok.s1, h.dok.s2, h.dok.n1, h.dok.n2, h.dok.len, by show -1 ≤ max a (-1); omega, by show max a (-1) ≤ _; omega, h.dok.lg⟩, ⟨h.rok.n1, h.rok.n2, h.rok.s1, h.rok.s2, by show -1 ≤ max a (-1); omega, by show max a (-1) ≤ _; omega, h.rok.lg, h.rok.len, h.rok.bs⟩, h.nb, h.size, h.log, rfl, rfl, h.blk⟩, rfl⟩
theorem sim_back {D : DS} {R : RS} (h : Sim D R) : Sim D.back R.back :=
  ⟨back_ok h.dok, ⟨h.rok.n1, h.rok.n2, h.rok.s1, h.rok.s2, by show (-1 : Int) ≤ -1; omega, by show (-1 : Int) ≤ _; omega, h.rok.lg, h.rok.len, h.rok.bs⟩, h.nb, h.size, h.log, rfl, rfl, h.blk⟩

theorem DiskAt.far {F : Nat → Prop} {pd : Nat} {p : Pl} {d : DS} {w w' : World} (h : DiskAt pd p d w) (hf : Fr F w w') (hd : ∀ k, p.F pd k → ¬ F k) : DiskAt pd p d w' :=
  ⟨hf.blk h.obj (hd _ (.inl rfl)), hf.blk h.row (hd _ (.inr (.inl rfl))), h.cap, h.capm, ownsRow_of_block h.log fun k hk => hf.block k (h.lt k (.inr (.inr (.inl hk)))) (hd k (.inr (.inr (.inl hk)))), (hf.block _ (h.lt _ (.inr (.inr (.inr rfl)))) (hd _ (.inr (.inr (.inr rfl))))).trans h.chan⟩
theorem Own.far {F : Nat → Prop} {w0 : World} {pd : Nat} {p : Pl} {d : DS} {w w' : World} (h : Own w0 pd p d w) (hf : Fr F w w') (hd : ∀ k, p.F pd k → ¬ F k) (hF : ∀ k, F k → w0.heap.size ≤ k) : Own w0 pd p d w' :=
  ⟨h.disk.far hf hd, h.bel.trans (hf.below h.bel.size hF), h.own⟩

/-- The disk and the reference's, both of the call's own, apart. -/
structure Both (w0 : World) (pd : Nat) (p : Pl) (D : DS) (pr : Nat) (q : RPl) (R : RS) (W : World) : Prop where
  own : Own w0 pd p D W
  ref : RefAt pr q R W
  rown : ∀ k, q.F pr k → w0.heap.size ≤ k
  apart : ∀ k, p.F pd k → ¬ q.F pr k
section
variable {w0 W W' : World} {pd : Nat} {p p' : Pl} {D D' : DS} {pr : Nat} {q q' : RPl} {R R' : RS}
theorem Both.below (h : Both w0 pd p D pr q R W) (hb : Below W.heap.size W W') : Both w0 pd p D pr q R W' := ⟨h.own.below hb, h.ref.keep hb, h.rown, h.apart⟩
theorem Both.dAct (h : Both w0 pd p D pr q R W) (a : Acts W pd p D' W' p') : Both w0 pd p' D' pr q R W' :=
  ⟨h.own.act a, h.ref.far a.fr (fun k hk hp => h.apart k hp hk), h.rown, fun k hk hq => by
    rcases a.grown k hk with h1 | h1
    · exact h.apart k h1 hq
    · have := h.ref.lt k hq; omega⟩
theorem Both.rAct (h : Both w0 pd p D pr q R W) (a : RActs W pr q R' W' q') : Both w0 pd p D pr q' R' W' :=
  ⟨h.own.far a.fr h.apart h.rown, a.ref, fun k hk => by
    rcases a.grown k hk with h1 | h1
    · exact h.rown k h1
    · exact Nat.le_trans h.own.bel.size h1, fun k hk hq => by
    rcases a.grown k hq with h1 | h1
    · exact h.apart k hk h1
    · have := h.own.disk.lt k hk; omega⟩
/-- What turns only blocks of others. -/
theorem Both.far {F : Nat → Prop} (h : Both w0 pd p D pr q R W) (hf : Fr F W W') (h1 : ∀ k, F k → w0.heap.size ≤ k ∧ ¬ p.F pd k ∧ ¬ q.F pr k) : Both w0 pd p D pr q R W' :=
  ⟨h.own.far hf (fun k hk hF => (h1 k hF).2.1 hk) (fun k hF => (h1 k hF).1), h.ref.far hf (fun k hk hF => (h1 k hF).2.2 hk), h.rown, h.apart⟩
/-- A block of others. -/
structure Out (pd : Nat) (p : Pl) (pr : Nat) (q : RPl) (k : Nat) : Prop where
  d : ¬ p.F pd k
  r : ¬ q.F pr k
theorem Both.new_out (h : Both w0 pd p D pr q R W) {k : Nat} (hk : W.heap.size ≤ k) : Out pd p pr q k :=
  ⟨fun hp => by have := h.own.disk.lt k hp; omega, fun hq => by have := h.ref.lt k hq; omega⟩
theorem Out.dAct {k : Nat} (h : Out pd p pr q k) (a : Acts W pd p D' W' p') (hk : k < W.heap.size) : Out pd p' pr q k :=
  ⟨fun hp => by
    rcases a.grown k hp with h1 | h1
    · exact h.d h1
    · omega, h.r⟩
theorem Out.rAct {k : Nat} (h : Out pd p pr q k) (a : RActs W pr q R' W' q') (hk : k < W.heap.size) : Out pd p pr q' k :=
  ⟨h.d, fun hq => by
    rcases a.grown k hq with h1 | h1
    · exact h.r h1
    · omega⟩
end

set_option maxHeartbeats 400000 in
/-- Restore turns nothing but the struct itself. -/
theorem restore_own {pd : Nat} {p : Pl} {d : DS} {w : World} (h : DiskAt pd p d w) :
    Calls Try.prog 14 #[.pointer (some ⟨pd, 0, none⟩)] w fun e w' => e = .returned (.tuple #[]) ∧ DiskAt pd { p with ch := w.heap.size, s := 0, r := 0 } d.back w' ∧ Fr (fun k => k = pd) w w' := by
  obtain ⟨c0, c1, c2, c3, c4⟩ := h.cells
  have f3 := h.obj.frozen 3
  have f4 := h.obj.frozen 4
  have hmc := mkChan
  have hlt := h.obj.lt
  have A2 : DiskAt pd { p with ch := w.heap.size, s := 0, r := 0 } d.back (((w.setCell ⟨pd, 3, none⟩ (.int .i64 (-1))).alloc (.chan 0 #[] false 0 0 false)).setCell ⟨pd, 4, none⟩ (.chan (some w.heap.size))).drew ∧ Fr (fun k => k = pd) w (((w.setCell ⟨pd, 3, none⟩ (.int .i64 (-1))).alloc (.chan 0 #[] false 0 0 false)).setCell ⟨pd, 4, none⟩ (.chan (some w.heap.size))).drew := by
    have d1 := (h.setLeft (-1)).keep (below_alloc (w.setCell ⟨pd, 3, none⟩ (.int .i64 (-1))) (.chan 0 #[] false 0 0 false))
    have hch : ((w.setCell ⟨pd, 3, none⟩ (.int .i64 (-1))).alloc (.chan 0 #[] false 0 0 false)).heap[w.heap.size]? = some (.chan 0 #[] false 0 0 false) := by
      have := heap_alloc_new (w.setCell ⟨pd, 3, none⟩ (.int .i64 (-1))) (.chan 0 #[] false 0 0 false)
      rwa [size_setCell] at this
    exact ⟨d1.setOff hch, (((Fr.setCell (fun k => k = pd) w (p := ⟨pd, 3, none⟩) (fun _ => rfl) _).same (Fr.alloc (fun k => k = pd) _ _)).same (Fr.setCell (fun k => k = pd) _ (p := ⟨pd, 4, none⟩) (fun _ => rfl) _)).drew⟩
  rw [World.setCell_alloc_past _ _ _ _ (by rw [size_setCell]; exact hlt)] at A2
  have HA2 := Lib.hid A2
  clear A2
  go_enter Try.func14, Try.ntmps14
  go_wp2
  go_region
  go_end0
  exact ⟨rfl, HA2.out.1, HA2.out.2⟩
end Go.Proofs.Ytclbhhgifjegiaa
