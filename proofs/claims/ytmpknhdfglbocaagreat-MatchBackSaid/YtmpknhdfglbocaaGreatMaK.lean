/- Layer 13: the walk of the document's Same of bindings. Written by magenk.py. -/
import Derived.Test.YtmpknhdfglbocaaGreatMaH
import Derived.Test.YtmpknhdfglbocaaGreatTermY
namespace Go.Proofs.YtmpknhdfglbocaaGreat
open Go.RowKit
set_option linter.unusedVariables false

/-- Are two lists of bindings the same? -/
def sameB : List BV → List BV → Bool
  | [], [] => true
  | p :: r, q :: s => (p.1 == q.1 && p.2.cmp q.2 == 0) && sameB r s
  | _, _ => false
theorem sameB_iff : ∀ (l m : List BV), sameB l m = true ↔ l = m
  | [], [] => by simp [sameB]
  | [], q :: s => by simp [sameB]
  | p :: r, [] => by simp [sameB]
  | p :: r, q :: s => by
    simp only [sameB, Bool.and_eq_true, beq_iff_eq, TV.cmp_zero, sameB_iff r s, List.cons.injEq]
    constructor
    · rintro ⟨⟨h1, h2⟩, h3⟩; exact ⟨Prod.ext h1 h2, h3⟩
    · rintro ⟨rfl, h3⟩; exact ⟨⟨rfl, rfl⟩, h3⟩
theorem sameB_self (l : List BV) : sameB l l = true := (sameB_iff l l).2 rfl
theorem sameB_len : ∀ (l m : List BV), l.length ≠ m.length → sameB l m = false
  | [], [], h => absurd rfl h
  | [], q :: s, _ => rfl
  | p :: r, [], _ => rfl
  | p :: r, q :: s, h => by
    simp only [sameB, sameB_len r s (by simpa using h), Bool.and_false]
theorem sameB_take : ∀ (l m : List BV) (k : Nat) (h : k < l.length) (h' : k < m.length), sameB (l.take (k + 1)) (m.take (k + 1)) = (sameB (l.take k) (m.take k) && (l[k].1 == m[k].1 && l[k].2.cmp m[k].2 == 0))
  | p :: r, q :: s, 0, _, _ => by simp [sameB]
  | p :: r, q :: s, k + 1, h, h' => by
    simp only [List.take_succ_cons, sameB, List.getElem_cons_succ]
    rw [sameB_take r s k (by simpa using h) (by simpa using h')]
    simp only [Bool.and_assoc]
theorem sameB_early : ∀ (l m : List BV) (k : Nat), l.length = m.length → sameB (l.take k) (m.take k) = false → sameB l m = false
  | [], [], k, _, h => by simp [sameB] at h
  | p :: r, q :: s, 0, _, h => by simp [sameB] at h
  | p :: r, q :: s, k + 1, hl, h => by
    simp only [List.take_succ_cons, sameB] at h ⊢
    rw [Bool.and_eq_false_iff] at h ⊢
    exact h.imp id fun h => sameB_early r s k (by simpa using hl) h
theorem vE_at {w0 : World} (E : List (BG (TE w0))) {k : Nat} (h : k < E.length) : (vE E)[k]'(by rw [vE_len]; exact h) = (E[k].1, E[k].2.t) := by simp [vE]

set_option maxRecDepth 100000 in
set_option maxHeartbeats 4000000 in
theorem rsame_any (w0 W : World) (E F : List (BG (TE w0))) (A B : Option Addr) (c d : Nat) (hW : Below w0.heap.size w0 W) (hE : RdB W A c E) (hF : RdB W B d F) :
    Calls Tryz.prog 14 #[.slice A E.length c, .slice B F.length d] W fun e w' => e = .returned (.bool (sameB (vE E) (vE F))) ∧ Below W.heap.size W w' := by
  have hlc := hE.1
  have hlc2 := hE.2.1
  have hld := hF.1
  have hld2 := hF.2.1
  obtain ⟨len, hlen⟩ : ∃ len, E.length = len := ⟨_, rfl⟩
  obtain ⟨lem, hlem⟩ : ∃ lem, F.length = lem := ⟨_, rfl⟩
  rw [hlen] at hlc ⊢
  rw [hlem] at hld ⊢
  by_cases hl : len = lem
  rotate_left
  · have HR := Lib.hid (sameB_len (vE E) (vE F) (by rw [vE_len, vE_len, hlen, hlem]; exact hl))
    have d1 : ((len : Int) != (lem : Int)) = true := by simp; omega
    rw [HR.out]
    clear hlen hlem hE hF
    go_enter Tryz.func14, Tryz.ntmps14
    go_wp2
    go_ret
    exact ⟨rfl, Below.refl _ _⟩
  subst hl
  have d1 : ((len : Int) != (len : Int)) = false := by simp
  have HLEN := Lib.hid hlen
  have HLEM := Lib.hid hlem
  have HE := Lib.hid hE
  have HF := Lib.hid hF
  obtain ⟨R, hR⟩ : ∃ R, sameB (vE E) (vE F) = R := ⟨_, rfl⟩
  rw [hR]
  have HR := Lib.hid hR
  clear hlen hlem hE hF hR
  go_enter Tryz.func14, Tryz.ntmps14
  go_upto_region 4 with (fail)
  go_loopw [5] (fun i wr => ∃ j : Nat, j ≤ len ∧ i = .int .i64 j ∧ sameB ((vE E).take j) ((vE F).take j) = true ∧ Below W.heap.size W wr) (fun i _ => len - (intOf i).toNat)
  case atStart => exact ⟨0, Nat.zero_le _, rfl, by simp [sameB], Below.refl _ _⟩
  case round =>
    obtain ⟨j, hj, rfl, hz, hb⟩ := hrel
    by_cases hlt : j < len
    · have hd8 : decide (j < len) = true := by simp; omega
      have hkl : j < E.length := by rw [HLEN.out]; exact hlt
      have hkl' : j < F.length := by rw [HLEM.out]; exact hlt
      obtain ⟨b, o, rfl, e0, e1, e2, e3, e4⟩ := (HE.out.below hb).item hkl
      obtain ⟨b', o', rfl, f0, f1, f2, f3, f4⟩ := (HF.out.below hb).item hkl'
      have HNX := Lib.hid (show sameB ((vE E).take (j + 1)) ((vE F).take (j + 1)) = (E[j].1 == F[j].1 && E[j].2.t.cmp F[j].2.t == 0) from by rw [sameB_take _ _ j (by rw [vE_len]; exact hkl) (by rw [vE_len]; exact hkl'), hz, Bool.true_and, vE_at E hkl, vE_at F hkl'])
      have HEA := Lib.hid (fun h => sameB_early (vE E) (vE F) (j + 1) (by rw [vE_len, vE_len, HLEN.out, HLEM.out]) h)
      have HC : Hid (∀ V', Below wr.heap.size wr V' → Calls Tryz.prog 15 #[.agg #[.int .i64 E[j].2.t.kind, .int .i64 E[j].2.t.int, .string ⟨E[j].2.t.name.toArray⟩, .slice E[j].2.A E[j].2.t.items.length E[j].2.c], .agg #[.int .i64 F[j].2.t.kind, .int .i64 F[j].2.t.int, .string ⟨F[j].2.t.name.toArray⟩, .slice F[j].2.A F[j].2.t.items.length F[j].2.c]] V' fun e w' => e = .returned (.bool (E[j].2.t.cmp F[j].2.t == 0)) ∧ Below wr.heap.size wr w') := fun V' hV => (tsame_any E[j].2.t F[j].2.t E[j].2.A E[j].2.c F[j].2.A F[j].2.c w0 V' (below_step (below_step hW hb) hV) E[j].2.ok F[j].2.ok).mono fun e w' ⟨h1, h2⟩ => ⟨h1, below_step hV h2⟩
      generalize E[j] = x at *
      generalize F[j] = y at *
      obtain ⟨xn, ⟨xt, xA, xc, xok⟩⟩ := x
      obtain ⟨yn, ⟨yt, yA, yc, yok⟩⟩ := y
      simp only at e0 e1 e2 e3 e4 f0 f1 f2 f3 f4 HNX HC
      obtain ⟨rb, hrb⟩ : ∃ rb, (xt.cmp yt == 0) = rb := ⟨_, rfl⟩
      rw [hrb] at HNX HC
      clear hrb xok yok
      generalize xt.items.length = xl at *
      generalize yt.items.length = yl at *
      generalize xt.kind = xk at *
      generalize xt.int = xi at *
      generalize xt.name = xs at *
      generalize yt.kind = yk at *
      generalize yt.int = yi at *
      generalize yt.name = ys at *
      have q1 : (0 : Int) ≤ (j : Int) := by omega
      have q2 : (j : Int) < (len : Int) := by omega
      clear hkl hkl' hz
      have hb0 := Below.refl wr.heap.size wr
      have HB := Lib.hid hb
      cases hne : (xn == yn) with
      | false =>
        have hnn : (xn != yn) = true := by simp only [bne, hne, Bool.not_false]
        have HNX2 := Lib.hid (show sameB ((vE E).take (j + 1)) ((vE F).take (j + 1)) = false from by rw [HNX.out, hne]; rfl)
        clear HC
        go_upto_region 6 with (fail)
        go_wp2
        go_quiet (fail)
        go_wp2
        go_ret
        exact ⟨by rw [← HR.out, HEA.out HNX2.out]; rfl, below_step HB.out (below_drewN hb0 _)⟩
      | true =>
        have HNX2 := Lib.hid (show sameB ((vE E).take (j + 1)) ((vE F).take (j + 1)) = rb from by rw [HNX.out, hne]; rfl)
        have HS : Hid (∀ V', Below wr.heap.size wr V' → (V'.cell? ⟨b, o + j * 5, none⟩ = some (.string ⟨xn.toArray⟩) ∧ V'.cell? ⟨b, o + j * 5 + 1, none⟩ = some (.int .i64 xk) ∧ V'.cell? ⟨b, o + j * 5 + 2, none⟩ = some (.int .i64 xi) ∧ V'.cell? ⟨b, o + j * 5 + 3, none⟩ = some (.string ⟨xs.toArray⟩) ∧ V'.cell? ⟨b, o + j * 5 + 4, none⟩ = some (.slice xA xl xc)) ∧ (V'.cell? ⟨b', o' + j * 5, none⟩ = some (.string ⟨yn.toArray⟩) ∧ V'.cell? ⟨b', o' + j * 5 + 1, none⟩ = some (.int .i64 yk) ∧ V'.cell? ⟨b', o' + j * 5 + 2, none⟩ = some (.int .i64 yi) ∧ V'.cell? ⟨b', o' + j * 5 + 3, none⟩ = some (.string ⟨ys.toArray⟩) ∧ V'.cell? ⟨b', o' + j * 5 + 4, none⟩ = some (.slice yA yl yc))) := fun V' hV => ⟨⟨(hV.cell (World.block_lt_of_cell? wr _ e0)).trans e0, (hV.cell (World.block_lt_of_cell? wr _ e1)).trans e1, (hV.cell (World.block_lt_of_cell? wr _ e2)).trans e2, (hV.cell (World.block_lt_of_cell? wr _ e3)).trans e3, (hV.cell (World.block_lt_of_cell? wr _ e4)).trans e4⟩, (hV.cell (World.block_lt_of_cell? wr _ f0)).trans f0, (hV.cell (World.block_lt_of_cell? wr _ f1)).trans f1, (hV.cell (World.block_lt_of_cell? wr _ f2)).trans f2, (hV.cell (World.block_lt_of_cell? wr _ f3)).trans f3, (hV.cell (World.block_lt_of_cell? wr _ f4)).trans f4⟩
        obtain rfl : xn = yn := by simpa using hne
        clear hb hne
        go_upto_region 6 with (fail)
        cases rb with
        | true =>
          go_region_held3 (fun V' => (V'.cell? ⟨b, o + j * 5, none⟩ = some (.string ⟨xn.toArray⟩) ∧ V'.cell? ⟨b, o + j * 5 + 1, none⟩ = some (.int .i64 xk) ∧ V'.cell? ⟨b, o + j * 5 + 2, none⟩ = some (.int .i64 xi) ∧ V'.cell? ⟨b, o + j * 5 + 3, none⟩ = some (.string ⟨xs.toArray⟩) ∧ V'.cell? ⟨b, o + j * 5 + 4, none⟩ = some (.slice xA xl xc)) ∧ (V'.cell? ⟨b', o' + j * 5, none⟩ = some (.string ⟨xn.toArray⟩) ∧ V'.cell? ⟨b', o' + j * 5 + 1, none⟩ = some (.int .i64 yk) ∧ V'.cell? ⟨b', o' + j * 5 + 2, none⟩ = some (.int .i64 yi) ∧ V'.cell? ⟨b', o' + j * 5 + 3, none⟩ = some (.string ⟨ys.toArray⟩) ∧ V'.cell? ⟨b', o' + j * 5 + 4, none⟩ = some (.slice yA yl yc))) (first | exact HS.out _ hb9 | exact HS.out _ (Below.refl _ _).drew | exact HS.out _ (Below.refl _ _)) ((go_at_call 15; refine (HC.out _ (by first | exact Below.refl _ _ | exact (Below.refl _ _).drew)).mono ?_; rintro e w' ⟨rfl, hb9⟩))
          all_goals
            go_wp2
            go_roundw
            case rel => exact ⟨j + 1, by omega, by go_num, HNX2.out, below_step HB.out hb9⟩
            case measure => simp [intOf]; omega
        | false =>
          go_region_held3 (fun V' => (V'.cell? ⟨b, o + j * 5, none⟩ = some (.string ⟨xn.toArray⟩) ∧ V'.cell? ⟨b, o + j * 5 + 1, none⟩ = some (.int .i64 xk) ∧ V'.cell? ⟨b, o + j * 5 + 2, none⟩ = some (.int .i64 xi) ∧ V'.cell? ⟨b, o + j * 5 + 3, none⟩ = some (.string ⟨xs.toArray⟩) ∧ V'.cell? ⟨b, o + j * 5 + 4, none⟩ = some (.slice xA xl xc)) ∧ (V'.cell? ⟨b', o' + j * 5, none⟩ = some (.string ⟨xn.toArray⟩) ∧ V'.cell? ⟨b', o' + j * 5 + 1, none⟩ = some (.int .i64 yk) ∧ V'.cell? ⟨b', o' + j * 5 + 2, none⟩ = some (.int .i64 yi) ∧ V'.cell? ⟨b', o' + j * 5 + 3, none⟩ = some (.string ⟨ys.toArray⟩) ∧ V'.cell? ⟨b', o' + j * 5 + 4, none⟩ = some (.slice yA yl yc))) (first | exact HS.out _ hb9 | exact HS.out _ (Below.refl _ _).drew | exact HS.out _ (Below.refl _ _)) ((go_at_call 15; refine (HC.out _ (by first | exact Below.refl _ _ | exact (Below.refl _ _).drew)).mono ?_; rintro e w' ⟨rfl, hb9⟩))
          all_goals
            go_wp2
            go_ret
            exact ⟨by rw [← HR.out, HEA.out HNX2.out]; rfl, below_step HB.out hb9⟩
    · obtain rfl : j = len := by omega
      have hd8 : decide (j < j) = false := by simp
      rw [List.take_of_length_le (by rw [vE_len, HLEN.out]; exact Nat.le_refl _), List.take_of_length_le (by rw [vE_len, HLEM.out]; exact Nat.le_refl _)] at hz
      have HZ := Lib.hid hz
      clear hz
      go_wp2_with (fail)
      go_ret
      exact ⟨by rw [← HR.out, HZ.out]; rfl, hb⟩
end Go.Proofs.YtmpknhdfglbocaaGreat
