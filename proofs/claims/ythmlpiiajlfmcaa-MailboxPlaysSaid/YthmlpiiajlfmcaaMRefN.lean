/- The reference's box of layer 17: New. -/
import Derived.Test.YthmlpiiajlfmcaaMRefT
namespace Go.Proofs.Ythmlpiiajlfmcaa
open Go.RowKit
set_option linter.unusedVariables false

def RNewEnds (w0 W : World) (l : List TV) (r : Ending) (w' : World) : Prop :=
  Below W.heap.size W w' ∧ (((newT [] l).1 ≠ 0 ∧ r = .returned (.tuple #[.pointer none, .int .i64 ((newT [] l).1 : Nat)])) ∨
    ((newT [] l).1 = 0 ∧ ∃ pb A cap es, r = .returned (.tuple #[.pointer (some ⟨pb, 0, none⟩), .int .i64 0]) ∧ es.map (fun e : TE w0 => e.t) = l ∧ RBox w0 pb A cap es w' ∧ W.heap.size ≤ pb ∧ ∀ g, (Value.slice A es.length cap).ownBlock = some g → W.heap.size ≤ g))

set_option maxRecDepth 100000 in
set_option maxHeartbeats 2000000 in
theorem rnew_any (l : List TV) (A : Option Addr) (len c : Nat) (w0 W : World) (hlen : l.length = len) (hnm : TV.namedL l) (hW : Below w0.heap.size w0 W) (hR : RdM w0 A c l) :
    Calls Try.prog 11 #[.slice A len c] W (RNewEnds w0 W l) := by
  have HLEN := Lib.hid hlen
  have HNM := Lib.hid hnm
  have hlc : len ≤ 9223372036854775807 := by have := hR.1; have := hR.2.1; omega
  have HB0 : Hid (RBox w0 W.heap.size none 0 [] (W.alloc (.cells #[.slice none 0 0] 49))) :=
    ⟨Blk.new _ _ _, World.ownsRow_nil _ _ _ _, below_step hW (below_alloc _ _), hW.size, ⟨by simp, by simp [bparts, TV.partsL], fun e he => by simp at he, fun e he => by simp at he⟩⟩
  clear hlen hnm
  go_enter Try.func11, Try.ntmps11
  go_upto_region 2 with (fail)
  refine wp_world (fun V => RBox w0 W.heap.size none 0 [] V ∧ Below W.heap.size W V) ⟨HB0.out, below_alloc _ _⟩ ?_
  rintro V1 ⟨hB1, hb1⟩
  go_wp2
  go_loopw [5] (fun i wr => ∃ (k : Nat) (A' : Option Addr) (cap : Nat) (es : List (TE w0)), k ≤ len ∧ i = .int .i64 k ∧ es.map (·.t) = l.take k ∧ newT [] (l.take k) = (0, l.take k) ∧ RBox w0 W.heap.size A' cap es wr ∧ Below W.heap.size W wr ∧ ∀ g, (Value.slice A' es.length cap).ownBlock = some g → W.heap.size ≤ g) (fun i _ => len - (intOf i).toNat)
  case atStart => exact ⟨0, none, 0, [], Nat.zero_le _, rfl, rfl, rfl, hB1, hb1, fun g hg => by cases hg⟩
  case round =>
    obtain ⟨k, A', cap, es, hk, rfl, hes, hall, hB, hb, hob⟩ := hrel
    clear hB1 hb1 HB0
    have hbr := hB.bel
    have HES := Lib.hid hes
    have HALL := Lib.hid hall
    clear hes hall
    by_cases hlt : k < len
    · have hd8 : decide (k < len) = true := by simp; omega
      have hkl : k < l.length := by rw [HLEN.out]; exact hlt
      obtain ⟨b, o, A1, c1, rfl, h0, h1, h2, h3, hR1⟩ := hR.item hkl
      have e0 := (hbr.cell (World.block_lt_of_cell? w0 _ h0)).trans h0
      have e1 := (hbr.cell (World.block_lt_of_cell? w0 _ h1)).trans h1
      have e2 := (hbr.cell (World.block_lt_of_cell? w0 _ h2)).trans h2
      have e3 := (hbr.cell (World.block_lt_of_cell? w0 _ h3)).trans h3
      have HTK := Lib.hid (newT_take hkl HALL.out)
      have HTS := Lib.hid (List.take_succ_eq_append_getElem hkl)
      have hnm1 := namedL_at HNM.out hkl
      generalize l[k] = ti at *
      have HPU := Lib.hid (rput_any hB ⟨ti, A1, c1, hR1⟩ hnm1)
      have HPE := Lib.hid (show putE es ti = putT (l.take k) ti by rw [putE_eq, HES.out])
      have q1 : (0 : Int) ≤ (k : Int) := by omega
      have q2 : (k : Int) < (len : Int) := by omega
      clear h0 h1 h2 h3 hkl hnm1
      by_cases hpe : putE es ti = 0
      · have HPS := Lib.hid (show putS es ⟨ti, A1, c1, hR1⟩ = es ++ [⟨ti, A1, c1, hR1⟩] by unfold putS; rw [if_pos hpe])
        unfold RPutEnds at HPU
        rw [hpe] at HPU
        have HZ := Lib.hid hpe
        clear hpe
        go_wp2_with (go_at_call 14; refine HPU.out.mono ?_; rintro r w5 ⟨rfl, A5, cap5, hB5, hF5, hO5⟩)
        rw [HPS.out] at hB5
        have hb5 : Below W.heap.size W w5 := hb.trans (hF5.below (by have := hb.size; omega) (fun j hj => by rw [hj]; exact Nat.le_refl _))
        have HOB : Hid (∀ g, (Value.slice A5 (es ++ [(⟨ti, A1, c1, hR1⟩ : TE w0)]).length cap5).ownBlock = some g → W.heap.size ≤ g) := fun g hg => by
          rcases hO5 g (by rw [HPS.out]; exact hg) with h9 | h9
          · exact hob g h9
          · have := hb.size
            skip
            omega
        go_wp2_with (fail)
        go_roundw
        case rel => exact ⟨k + 1, A5, cap5, es ++ [⟨ti, A1, c1, hR1⟩], by omega, by go_num, by rw [List.map_append, HES.out, HTS.out]; rfl, by rw [HTK.out, if_pos (by rw [← HPE.out]; exact HZ.out)], hB5, hb5, HOB.out⟩
        case measure => simp [intOf]; omega
      · have HPS := Lib.hid (show putS es ⟨ti, A1, c1, hR1⟩ = es by unfold putS; rw [if_neg hpe])
        unfold RPutEnds at HPU
        obtain ⟨pe, hpe2⟩ : ∃ pe, putE es ti = pe := ⟨_, rfl⟩
        rw [hpe2] at HPU hpe
        have hd7 : ((pe : Int) != 0) = true := by rw [bne_iff_ne]; omega
        have HST := Lib.hid (show newT [] l = (pe, l.take k) by
          have h9 : newT [] (l.take (k + 1)) = (pe, l.take k) := by rw [HTK.out, ← HPE.out, hpe2, if_neg hpe]
          rw [newT_stop (k := k + 1) (by rw [h9]; exact hpe), h9])
        have HPZ := Lib.hid hpe
        clear hpe hpe2
        go_wp2_with (go_at_call 14; refine HPU.out.mono ?_; rintro r w5 ⟨rfl, A5, cap5, hB5, hF5, hO5⟩)
        have hb5 : Below W.heap.size W w5 := hb.trans (hF5.below (by have := hb.size; omega) (fun j hj => by rw [hj]; exact Nat.le_refl _))
        go_ret2
        exact ⟨hb5, .inl (by rw [HST.out]; exact ⟨HPZ.out, rfl⟩)⟩
    · obtain rfl : k = len := by omega
      have hd8 : decide (k < k) = false := by simp
      go_wp2_with (fail)
      go_ret2
      have h9 := HALL.out
      have h8 := HES.out
      rw [List.take_of_length_le (by rw [HLEN.out]; exact Nat.le_refl _)] at h9 h8
      exact ⟨hb, .inr ⟨by rw [h9], W.heap.size, A', cap, es, rfl, h8, hB, Nat.le_refl _, hob⟩⟩
end Go.Proofs.Ythmlpiiajlfmcaa
