/- The walk of Copy of layer 2. -/
import Derived.Test.YtclbhhgifjegiaaRefR
namespace Go.Proofs.Ytclbhhgifjegiaa
open Go.RowKit
set_option linter.unusedVariables false
attribute [local go_sem ↓] Go.wp_at_zero Go.wp_at_succ

section
variable {pd : Nat} {p : Pl} {d : DS} {w : World}
theorem DiskAt.of_heap {w' : World} (h : DiskAt pd p d w) (e : w'.heap = w.heap) : DiskAt pd p d w' :=
  ⟨by unfold Blk; rw [e]; exact h.obj, by unfold Blk; rw [e]; exact h.row, h.cap, h.capm, ownsRow_of_block h.log fun k _ => by rw [e], by rw [e]; exact h.chan⟩
/-- A disk's parts laid together. -/
theorem copy_at {pc gB capB cBI : Nat} {BI : Option Addr} {w2 w3 w4 : World} {v1 v2 : Value} (h : DiskAt pd p d w) (hb4 : Below w.heap.size w w4) (hpc : w.heap.size ≤ pc) (hB : Blk w4 pc 58 #[.int .i64 (d.size : Int), v1, v2, .int .i64 d.left, .chan (some p.ch)])
    (hownB : w4.ownsRow 0 5 1 (.slice (some ⟨gB, 0, none⟩) d.bytes.length capB) d.bytes.length (d.bytes.map bv)) (hg : pc < gB) (hownI : w4.ownsRow 0 3 1 (.slice BI d.log.length cBI) d.log.length (d.log.map iv)) (hi : ∀ k, (Value.slice BI d.log.length cBI).ownBlock = some k → k ≠ pc) :
    ∃ tl, DiskAt pc ⟨gB, capB, tl, .slice BI d.log.length cBI, p.ch, p.s, p.r⟩ d ((w4.setCell ⟨pc, 1, none⟩ (.slice (some ⟨gB, 0, none⟩) d.bytes.length capB)).setCell ⟨pc, 2, none⟩ (.slice BI d.log.length cBI)) := by
  have hchl : p.ch < w.heap.size := (Array.getElem?_eq_some_iff.1 h.chan).1
  rcases hownB.2 with ⟨hv, _⟩ | ⟨g, cap, cur, hv, _, hgc, hnc, hcm, hsz, htk⟩
  · cases hv
  · injection hv with hv1 _ hv2
    injection hv1 with hv1
    injection hv1 with hv1
    subst hv1 hv2
    refine ⟨cur.toList.drop d.bytes.length, (hB.set_ 1 _).set_ 2 _, ?_, hnc, by unfold maxLen at hcm; exact hcm, ?_, ?_⟩
    · have e : (d.bytes.map bv ++ cur.toList.drop d.bytes.length).toArray = cur := by
        rw [← htk, Nat.mul_one, List.take_append_drop]
      rw [e]
      exact Blk.far (Blk.far hgc (p := ⟨pc, 1, none⟩) (show gB ≠ pc by omega) _) (p := ⟨pc, 2, none⟩) (show gB ≠ pc by omega) _
    · exact ownsRow_of_block hownI fun k hk => (Below.heap_setCell _ _ _ _ (hi k hk)).trans (Below.heap_setCell _ _ _ _ (hi k hk))
    · rw [Below.heap_setCell _ _ _ _ (show p.ch ≠ pc by omega), Below.heap_setCell _ _ _ _ (show p.ch ≠ pc by omega), hb4.block _ hchl]
      exact h.chan
theorem ownsRow_zero {base e size : Nat} {v : Value} {n : Nat} {xs : List Value} (h : w.ownsRow base e size v n xs) : w.ownsRow 0 e size v n xs := by
  refine ⟨h.1, ?_⟩
  rcases h.2 with h1 | ⟨g, cap, cur, hv, _, h2⟩
  · exact .inl h1
  · exact .inr ⟨g, cap, cur, hv, Nat.zero_le _, h2⟩
set_option maxHeartbeats 1000000 in
theorem copy_any (h : DiskAt pd p d w) (ok : d.Ok) :
    Calls Try.prog 23 #[.pointer (some ⟨pd, 0, none⟩)] w fun e w' => ∃ pc p', e = .returned (.pointer (some ⟨pc, 0, none⟩)) ∧ DiskAt pc p' d w' ∧ Below w.heap.size w w' ∧ ∀ k, p'.F pc k → w.heap.size ≤ k ∨ (d.off = true ∧ k = p.ch) := by
  obtain ⟨c0, c1, c2, c3, c4⟩ := h.cells
  obtain ⟨A, cA, hv, hri, _, _⟩ := own_rdi h.log
  have hrd : Rd w (some ⟨p.gb, 0, none⟩) d.bytes := by
    refine .inr ⟨p.gb, 0, rfl, fun j hj => ?_⟩
    rw [h.row.cell, Nat.zero_add, List.getElem?_toArray, List.getElem?_append_left (by simpa using hj), List.getElem?_map, List.getElem?_eq_getElem hj]
    rfl
  have hlen := len_of ok
  have hlg := ok.lg
  have hpd := h.obj.lt
  have HC := Lib.hid (fun W (hb : Below w.heap.size w W) => clone_any (some ⟨p.gb, 0, none⟩) d.bytes d.bytes.length p.cap W rfl (by omega) (hrd.below hb))
  have HI := Lib.hid (fun W (hb : Below w.heap.size w W) => clonei_any A d.log d.log.length cA W rfl (by omega) (hri.below hb))
  have HS := Lib.hid (fun W (hb : Below w.heap.size w W) => (h.keep hb).cells)
  rw [hv] at c2
  have HV := Lib.hid hv
  clear hv
  go_enter Try.func23, Try.ntmps23
  go_upto_region 4 with (fail)
  have hF0 : Below w.heap.size w (w.alloc (.cells #[.int .i64 (d.size : Int), .slice (some ⟨p.gb, 0, none⟩) d.bytes.length p.cap, .slice A d.log.length cA, .int .i64 d.left, .chan (some p.ch)] 58)) ∧ Blk (w.alloc (.cells #[.int .i64 (d.size : Int), .slice (some ⟨p.gb, 0, none⟩) d.bytes.length p.cap, .slice A d.log.length cA, .int .i64 d.left, .chan (some p.ch)] 58)) w.heap.size 58 #[.int .i64 (d.size : Int), .slice (some ⟨p.gb, 0, none⟩) d.bytes.length p.cap, .slice A d.log.length cA, .int .i64 d.left, .chan (some p.ch)] := ⟨below_alloc w _, Blk.new w _ _⟩
  refine wp_world (fun W => Below w.heap.size w W ∧ Blk W w.heap.size 58 #[.int .i64 (d.size : Int), .slice (some ⟨p.gb, 0, none⟩) d.bytes.length p.cap, .slice A d.log.length cA, .int .i64 d.left, .chan (some p.ch)]) hF0 ?_
  clear hF0
  rintro w2 ⟨hb2, hB2⟩
  have hbp : 0 < d.bytes.length := by rw [ok.len]; exact Nat.mul_pos ok.n1 (by have := ok.s1; omega)
  obtain ⟨e0, e1, e2, e3, e4⟩ := HS.out w2 hb2
  rw [HV.out] at e2
  clear c0 c1 c2 c3 c4
  have HS2 := Lib.hid (fun W (hb : Below w.heap.size w W) => And.intro (HS.out W hb).2.1 (show W.cell? ⟨pd, 2, none⟩ = some (.slice A d.log.length cA) by rw [← HV.out]; exact (HS.out W hb).2.2.1))
  have hbw : ∀ W, Below w2.heap.size w2 W → Below w.heap.size w W := fun W hb => below_step hb2 hb
  have HBW := Lib.hid hbw
  clear hbw
  go_region_held3 (fun W => W.cell? ⟨pd, 1, none⟩ = some (.slice (some ⟨p.gb, 0, none⟩) d.bytes.length p.cap) ∧ W.cell? ⟨pd, 2, none⟩ = some (.slice A d.log.length cA)) (first | go_keep | exact HS2.out _ (HBW.out _ hbB) | exact HS2.out _ (HBW.out _ hbI) | exact HS2.out _ ((HBW.out _ hbB).setCell (Nat.le_refl _) _) | exact HS2.out _ ((HBW.out _ hbI).setCell (Nat.le_refl _) _) | exact HS2.out _ (((HBW.out _ hbB).setCell (Nat.le_refl _) _).setCell (Nat.le_refl _) _) | exact HS2.out _ (((HBW.out _ hbI).setCell (Nat.le_refl _) _).setCell (Nat.le_refl _) _)) ((first
    | (go_at_call 30
       first
         | (refine (HC.out w2.drew hb2.drew).mono ?_
            rintro e w3 ⟨v, rfl, hownB, hbB0⟩
            have hbB : Below w2.heap.size w2 w3 := (Below.refl _ _).drew.trans hbB0
            obtain ⟨gB, capB, hvB, _, _⟩ := hownB.form hbp
            subst hvB)
         | (refine (HC.out w3 (HBW.out w3 hbI)).mono ?_
            rintro e w4 ⟨v, rfl, hownB, hbB0⟩
            have hbB : Below w2.heap.size w2 w4 := below_step hbI hbB0
            obtain ⟨gB, capB, hvB, _, _⟩ := hownB.form hbp
            subst hvB
            have k1 : w4.cell? ⟨w.heap.size, 1, none⟩ = some (.slice (some ⟨p.gb, 0, none⟩) d.bytes.length p.cap) := (hB2.keep hbB).cell 1
            have k2 : w4.cell? ⟨w.heap.size, 2, none⟩ = some (.slice A d.log.length cA) := (hB2.keep hbB).cell 2
            have f1 := (hB2.keep hbB).frozen 1
            have f2 := (hB2.keep hbB).frozen 2))
    | (go_at_call 31
       first
         | (refine (HI.out w2.drew hb2.drew).mono ?_
            rintro e w3 ⟨v, rfl, hownI, hbI0⟩
            have hbI : Below w2.heap.size w2 w3 := (Below.refl _ _).drew.trans hbI0
            obtain ⟨BI, cBI, rfl, _, _, _⟩ := own_rdi hownI)
         | (refine (HI.out w3 (HBW.out w3 hbB)).mono ?_
            rintro e w4 ⟨v, rfl, hownI, hbI0⟩
            have hbI : Below w2.heap.size w2 w4 := below_step hbB hbI0
            obtain ⟨BI, cBI, rfl, _, _, _⟩ := own_rdi hownI
            have k1 : w4.cell? ⟨w.heap.size, 1, none⟩ = some (.slice (some ⟨p.gb, 0, none⟩) d.bytes.length p.cap) := (hB2.keep hbI).cell 1
            have k2 : w4.cell? ⟨w.heap.size, 2, none⟩ = some (.slice A d.log.length cA) := (hB2.keep hbI).cell 2
            have f1 := (hB2.keep hbI).frozen 1
            have f2 := (hB2.keep hbI).frozen 2))))
  have hs2 : w.heap.size < w2.heap.size := hB2.lt
  have hs3 : w2.heap.size ≤ w3.heap.size := hbB.size
  have hgB : w2.heap.size ≤ gB := (hownB.lt gB rfl).1
  have hIB : ∀ k, (Value.slice BI d.log.length cBI).ownBlock = some k → w3.heap.size ≤ k := fun k hk => (hownI.lt k hk).1
  have hownB4 := ownsRow_of_block (w' := w4) hownB (fun k hk => hbI0.block k (hownB.lt k hk).2)
  obtain ⟨tl, hD5⟩ := copy_at (w2 := w2) (w3 := w3) h (HBW.out _ hbI) (Nat.le_refl _) (hB2.keep hbI) (ownsRow_zero hownB4) (by omega) (ownsRow_zero hownI) (fun k hk => by have := hIB k hk; omega)
  have hb5 : Below w.heap.size w ((w4.setCell ⟨w.heap.size, 1, none⟩ (.slice (some ⟨gB, 0, none⟩) d.bytes.length capB)).setCell ⟨w.heap.size, 2, none⟩ (.slice BI d.log.length cBI)) := ((HBW.out _ hbI).setCell (Nat.le_refl _) _).setCell (Nat.le_refl _) _
  have HG : Hid (w.heap.size ≤ gB ∧ ∀ k, (Value.slice BI d.log.length cBI).ownBlock = some k → w.heap.size ≤ k) := ⟨by omega, fun k hk => by have := hIB k hk; omega⟩
  have H5 : Hid (DiskAt w.heap.size ⟨gB, capB, tl, .slice BI d.log.length cBI, p.ch, p.s, p.r⟩ d ((w4.setCell ⟨w.heap.size, 1, none⟩ (.slice (some ⟨gB, 0, none⟩) d.bytes.length capB)).setCell ⟨w.heap.size, 2, none⟩ (.slice BI d.log.length cBI)) ∧ Below w.heap.size w ((w4.setCell ⟨w.heap.size, 1, none⟩ (.slice (some ⟨gB, 0, none⟩) d.bytes.length capB)).setCell ⟨w.heap.size, 2, none⟩ (.slice BI d.log.length cBI))) := ⟨hD5, hb5⟩
  clear hD5 hb5 hownB hownI hownB4 k1 k2 f1 f2 e0 e1 e2 e3 e4 hB2 hbI hbI0 hbB hbB0 HC HI HS HS2
  go_upto_region 5 with (fail)
  refine wp_world (fun W => DiskAt w.heap.size ⟨gB, capB, tl, .slice BI d.log.length cBI, p.ch, p.s, p.r⟩ d W ∧ Below w.heap.size w W) H5.out ?_
  clear H5
  rintro w6 ⟨hD6, hb6⟩
  have HD := Lib.hid (dead_any (h.keep hb6))
  cases ho : d.off with
  | true =>
    rw [ho] at HD
    go_wp2_with (go_at_call 17; refine HD.out.mono ?_; rintro e w7 ⟨rfl, rfl⟩)
    go_ret
    refine ⟨w.heap.size, _, rfl, hD6, hb6, ?_⟩
    rintro k (h1 | h1 | h1 | h1)
    · exact .inl (Nat.le_of_eq h1.symm)
    · exact .inl (by rw [show k = gB from h1]; exact HG.out.1)
    · exact .inl (HG.out.2 k h1)
    · exact .inr ⟨ho, h1⟩
  | false =>
    rw [ho] at HD
    have hmc := mkChan
    have k4 := hD6.cells.2.2.2.2
    have f4 := hD6.obj.frozen 4
    have hlt6 := hD6.obj.lt
    have hch : (w6.alloc (.chan 0 #[] false 0 0 false)).heap[w6.heap.size]? = some (.chan 0 #[] false 0 0 false) := heap_alloc_new w6 _
    have HX := Lib.hid ((((hD6.keep (below_alloc w6 (.chan 0 #[] false 0 0 false))).setOff hch)).of_heap (w' := (w6.alloc (.chan 0 #[] false 0 0 false)).setCell ⟨w.heap.size, 4, none⟩ (.chan (some w6.heap.size))) rfl)
    have HY := Lib.hid ((hb6.alloc hb6.size (.chan 0 #[] false 0 0 false)).setCell (p := ⟨w.heap.size, 4, none⟩) (Nat.le_refl _) (.chan (some w6.heap.size)))
    rw [World.setCell_alloc_past _ _ _ _ hlt6] at HX HY
    have HZ := Lib.hid (show ({ d with off := false } : DS) = d by rw [← ho])
    have hs6 := hb6.size
    clear hch
    go_wp2_with (go_at_call 17; refine HD.out.mono ?_; rintro e w7 ⟨rfl, rfl⟩)
    go_ret
    have HX2 := HX.out
    rw [HZ.out] at HX2
    refine ⟨w.heap.size, _, rfl, HX2, HY.out, ?_⟩
    rintro k (h1 | h1 | h1 | h1)
    · exact .inl (Nat.le_of_eq h1.symm)
    · exact .inl (by rw [show k = gB from h1]; exact HG.out.1)
    · exact .inl (HG.out.2 k h1)
    · exact .inl (by rw [show k = w6.heap.size from h1]; exact hs6)
end
end Go.Proofs.Ytclbhhgifjegiaa
