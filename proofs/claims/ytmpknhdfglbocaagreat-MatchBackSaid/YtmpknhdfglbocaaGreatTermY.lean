/- The walks of the reference's Same, Rows, Check, Int of layer 7. -/
import Derived.Test.YtmpknhdfglbocaaGreatTermX
namespace Go.Proofs.YtmpknhdfglbocaaGreat
open Go.RowKit
set_option linter.unusedVariables false

set_option maxHeartbeats 1000000 in
theorem tsame_any (a b : TV) (A : Option Addr) (c : Nat) (A' : Option Addr) (c' : Nat) (w0 W : World) (hW : Below w0.heap.size w0 W) (hR : RdM w0 A c a.items) (hR' : RdM w0 A' c' b.items) :
    Calls Tryz.prog 15 #[.agg #[.int .i64 a.kind, .int .i64 a.int, .string ⟨a.name.toArray⟩, .slice A a.items.length c], .agg #[.int .i64 b.kind, .int .i64 b.int, .string ⟨b.name.toArray⟩, .slice A' b.items.length c']] W fun e w' => e = .returned (.bool (a.cmp b == 0)) ∧ Below W.heap.size W w' := by
  have HC := Lib.hid (fun V (h : Below w0.heap.size w0 V) => cmp_any a.parts a b A c A' c' w0 V (Nat.le_refl _) h hR hR')
  generalize a.items.length = tl at *
  generalize b.items.length = tm at *
  go_enter Tryz.func15, Tryz.ntmps15
  go_upto_region 1 with (fail)
  refine wp_world (C2 W #[.int .i64 a.kind, .int .i64 a.int, .string ⟨a.name.toArray⟩, .slice A tl c] #[.int .i64 b.kind, .int .i64 b.int, .string ⟨b.name.toArray⟩, .slice A' tm c']) (C2.new W _ _) ?_
  intro V hV
  have x0 := hV.x.cell 0
  have x1 := hV.x.cell 1
  have x2 := hV.x.cell 2
  have x3 := hV.x.cell 3
  have y0 := hV.y.cell 0
  have y1 := hV.y.cell 1
  have y2 := hV.y.cell 2
  have y3 := hV.y.cell 3
  go_wp2_with (go_at_call 35; refine (HC.out _ (below_step hW hV.bel)).mono ?_; rintro e w5 ⟨rfl, hb5⟩)
  go_ret
  exact ⟨rfl, below_step hV.bel hb5⟩

theorem cmp_self (a : TV) : (a.cmp a == 0) = true := by simp [(TV.cmp_zero a a).2 rfl]

set_option maxRecDepth 100000 in
set_option maxHeartbeats 2000000 in
theorem rcheck_any (l : List TV) (A : Option Addr) (len c : Nat) (w0 W : World) (hlen : l.length = len) (hnm : TV.namedL l) (hW : Below w0.heap.size w0 W) (hR : RdM w0 A c l) :
    Calls Tryz.prog 16 #[.slice A len c] W fun e w' => e = .returned (.int .i64 (checkP l : Nat)) ∧ Below W.heap.size W w' := by
  have HFI := Lib.hid (fits_any l A len c 4096 w0 W hlen (by omega) (by omega) hW hR)
  have HLEN := Lib.hid hlen
  have HNM := Lib.hid hnm
  have hlc : len ≤ 9223372036854775807 := by have := hR.1; have := hR.2.1; omega
  by_cases hov : TV.partsL l ≤ 4096
  · rw [show decide ((TV.partsL l : Int) ≤ 4096) = true by simp; omega] at HFI
    have HK := Lib.hid (show checkP l = if TV.isL l then 0 else 70 by unfold checkP; rw [if_pos hov])
    clear hlen hnm hov
    go_enter Tryz.func16, Tryz.ntmps16
    go_upto_region 4 with (go_at_call 36; refine HFI.out.mono ?_; rintro e w1 ⟨rfl, hb1⟩)
    go_loopw [3] (fun i wr => ∃ j : Nat, j ≤ len ∧ i = .int .i64 j ∧ TV.isL (l.take j) = true ∧ Below W.heap.size W wr) (fun i _ => len - (intOf i).toNat)
    case atStart => exact ⟨0, Nat.zero_le _, rfl, by simp [TV.isL], hb1⟩
    case round =>
      obtain ⟨j, hj, rfl, hall, hb⟩ := hrel
      clear hb1
      have HALL := Lib.hid hall
      clear hall
      have hbr := below_step hW hb
      by_cases hlt : j < len
      · have hd8 : decide (j < len) = true := by simp; omega
        have hkl : j < l.length := by rw [HLEN.out]; exact hlt
        obtain ⟨b, o, A', c', rfl, h0, h1, h2, h3, hR'⟩ := hR.item hkl
        have e0 := (hbr.cell (World.block_lt_of_cell? w0 _ h0)).trans h0
        have e1 := (hbr.cell (World.block_lt_of_cell? w0 _ h1)).trans h1
        have e2 := (hbr.cell (World.block_lt_of_cell? w0 _ h2)).trans h2
        have e3 := (hbr.cell (World.block_lt_of_cell? w0 _ h3)).trans h3
        have HC := Lib.hid (ris_any l[j].parts l[j] A' c' w0 wr (Nat.le_refl _) (namedL_at HNM.out hkl) hbr hR')
        have HTK := Lib.hid (isL_take l j hkl)
        have HTL := Lib.hid (isL_no l j hkl)
        generalize l[j] = ti at *
        generalize ti.items.length = tl at *
        have q1 : (0 : Int) ≤ (j : Int) := by omega
        have q2 : (j : Int) < (len : Int) := by omega
        clear h0 h1 h2 h3 hkl hR'
        cases hti : ti.isT with
        | true =>
          rw [hti] at HC HTK
          go_wp2_with (go_at_call 37; refine HC.out.mono ?_; rintro e w5 ⟨rfl, hb5⟩)
          go_roundw
          case rel => exact ⟨j + 1, by omega, by go_num, by rw [HTK.out, HALL.out]; rfl, below_step hb hb5⟩
          case measure => simp [intOf]; omega
        | false =>
          rw [hti] at HC
          have HNO := Lib.hid (HTL.out hti)
          clear hti
          go_wp2_with (go_at_call 37; refine HC.out.mono ?_; rintro e w5 ⟨rfl, hb5⟩)
          go_ret
          exact ⟨by rw [HK.out, HNO.out]; rfl, below_step hb hb5⟩
      · obtain rfl : j = len := by omega
        have hd8 : decide (j < j) = false := by simp
        go_wp2_with (fail)
        go_ret
        have := HALL.out
        rw [List.take_of_length_le (by rw [HLEN.out]; exact Nat.le_refl _)] at this
        exact ⟨by rw [HK.out, this]; rfl, hb⟩
  · rw [show decide ((TV.partsL l : Int) ≤ 4096) = false by simp; omega] at HFI
    have HK := Lib.hid (show checkP l = 6 by unfold checkP; rw [if_neg hov])
    clear hlen hnm hov
    go_enter Tryz.func16, Tryz.ntmps16
    go_wp2_with (go_at_call 36; refine HFI.out.mono ?_; rintro e w1 ⟨rfl, hb1⟩)
    go_ret
    exact ⟨by rw [HK.out]; rfl, hb1⟩

set_option maxHeartbeats 400000 in
theorem tint_any (n : Int) (W : World) : Calls Tryz.prog 21 #[.int .i64 n] W fun e w' => e = .returned (.agg #[.int .i64 1, .int .i64 n, .string ⟨#[]⟩, .slice none 0 0]) ∧ Below W.heap.size W w' := by
  go_enter Tryz.func21, Tryz.ntmps21
  go_wp2
  exact bodyPost_ret (v := .agg #[.int .i64 1, .int .i64 n, .string ⟨#[]⟩, .slice none 0 0]) (by simp [results, Tryz.results21, go_sem]) rfl ⟨rfl, below_alloc _ _⟩
end Go.Proofs.YtmpknhdfglbocaaGreat
