/- The walks of the term package's count and Size. -/
import Derived.Test.YtefnjplfemgibaaProg
import Derived.Test.YtefnjplfemgibaaTermV
import Derived.StillTailTactics
import Derived.Deep.QuietTactic
import Derived.BigQuiet
import Derived.Outline
import Derived.Deep.Cut
import Derived.Deep.DeepMust
import Derived.IntWalk
import Derived.Deep.RegionHeld3
namespace Go.Proofs.Ytefnjplfemgibaa
open Go.RowKit
set_option linter.unusedVariables false

/-- What count leaves: the number, and whether there are not too many. -/
def countP (x n : Nat) : Nat × Bool := if x + n ≤ 4096 then (x + n, true) else (4097, false)
def CountEnds (W : World) (p x n : Nat) (e : Ending) (w' : World) : Prop :=
  e = .returned (.bool (countP x n).2) ∧ Blk w' p 105 #[.int .i64 ((countP x n).1 : Int)] ∧ Fr (fun k => k = p) W w'
theorem countP_yes {x n : Nat} (h : x + n ≤ 4096) : countP x n = (x + n, true) := by unfold countP; rw [if_pos h]
theorem countP_no {x n : Nat} (h : ¬ x + n ≤ 4096) : countP x n = (4097, false) := by unfold countP; rw [if_neg h]

set_option maxHeartbeats 1000000 in
theorem count_full (t : TV) (A : Option Addr) (c p len : Nat) (W : World) (hB : Blk W p 105 #[.int .i64 (4096 : Nat)]) :
    Calls Try.prog 57 #[.pointer (some ⟨p, 0, none⟩), .agg #[.int .i64 t.kind, .int .i64 t.int, .string ⟨t.name.toArray⟩, .slice A len c]] W fun e w' => e = .returned (.bool false) ∧ Blk w' p 105 #[.int .i64 4097] ∧ Fr (fun k => k = p) W w' := by
  have c0 : W.cell? ⟨p, 0, none⟩ = some (.int .i64 4096) := hB.cell 0
  have f0 := hB.frozen 0
  have hlt := hB.lt
  have HE : Hid (Blk ((W.setCell ⟨p, 0, none⟩ (.int .i64 4097)).alloc (.cells #[.int .i64 t.kind, .int .i64 t.int, .string ⟨t.name.toArray⟩, .slice A len c] 37)) p 105 #[.int .i64 4097] ∧ Fr (fun k => k = p) W ((W.setCell ⟨p, 0, none⟩ (.int .i64 4097)).alloc (.cells #[.int .i64 t.kind, .int .i64 t.int, .string ⟨t.name.toArray⟩, .slice A len c] 37))) :=
    ⟨(hB.set_ 0 _).alloc _, (Fr.setCell (fun k => k = p) W (p := ⟨p, 0, none⟩) (fun _ => rfl) _).same (Fr.alloc _ _ _)⟩
  go_enter Try.func57, Try.ntmps57
  go_wp2_with (fail)
  go_ret
  exact ⟨rfl, HE.out.1, HE.out.2⟩

set_option maxRecDepth 100000 in
set_option maxHeartbeats 2000000 in
theorem count_any (N : Nat) : ∀ (t : TV) (A : Option Addr) (c x p : Nat) (w0 W : World), t.parts ≤ N → x ≤ 4096 → Below w0.heap.size w0 W → w0.heap.size ≤ p → RdM w0 A c t.items → Blk W p 105 #[.int .i64 (x : Int)] →
    Calls Try.prog 57 #[.pointer (some ⟨p, 0, none⟩), .agg #[.int .i64 t.kind, .int .i64 t.int, .string ⟨t.name.toArray⟩, .slice A t.items.length c]] W (CountEnds W p x t.parts) := by
  induction N with
  | zero => intro t A c x p w0 W ht; have := t.parts_pos; omega
  | succ N ih =>
    intro t A c x p w0 W ht hx hW hp hR hB
    by_cases hfull : x = 4096
    · subst hfull
      have h1 := t.parts_pos
      refine (count_full t A c p t.items.length W hB).mono ?_
      rintro e w' ⟨he, hb', hf⟩
      unfold CountEnds
      rw [countP_no (by omega)]
      exact ⟨he, hb', hf⟩
    have hpe := t.parts_eq
    have c0 : W.cell? ⟨p, 0, none⟩ = some (.int .i64 (x : Int)) := hB.cell 0
    have f0 := hB.frozen 0
    have hlt := hB.lt
    obtain ⟨k0, n0, s0, l, ht0⟩ : ∃ k0 n0 s0 l, t = TV.mk k0 n0 s0 l := by cases t; exact ⟨_, _, _, _, rfl⟩
    subst ht0
    simp only [TV.kind, TV.int, TV.name, TV.items] at hR hpe ⊢
    obtain ⟨len, hlen⟩ : ∃ len, l.length = len := ⟨_, rfl⟩
    have HLEN := Lib.hid hlen
    have hlc : len ≤ 9223372036854775807 := by have := hR.1; have := hR.2.1; omega
    rw [hlen]
    generalize (TV.mk k0 n0 s0 l).parts = P at *
    have HPE := Lib.hid hpe
    have HE : Hid (∀ y : Nat, Blk ((W.setCell ⟨p, 0, none⟩ (.int .i64 ((x : Int) + 1))).alloc (.cells #[.int .i64 k0, .int .i64 n0, .string ⟨s0.toArray⟩, .slice A len c] 37)) p 105 #[.int .i64 ((x : Int) + 1)] ∧ Fr (fun k => k = p) W ((W.setCell ⟨p, 0, none⟩ (.int .i64 ((x : Int) + 1))).alloc (.cells #[.int .i64 k0, .int .i64 n0, .string ⟨s0.toArray⟩, .slice A len c] 37))) :=
      fun _ => ⟨(hB.set_ 0 _).alloc _, (Fr.setCell (fun k => k = p) W (p := ⟨p, 0, none⟩) (fun _ => rfl) _).same (Fr.alloc _ _ _)⟩
    have hd1 : decide (4096 < (x : Int) + 1) = false := by simp; omega
    have hx2 : x + 1 ≤ 4096 := by omega
    clear hlen hpe hfull
    go_enter Try.func57, Try.ntmps57
    go_upto_region 5 with (fail)
    refine wp_world (fun w1 => Blk w1 p 105 #[.int .i64 ((x + 1 + TV.partsL (l.take 0) : Nat) : Int)] ∧ Fr (fun k => k = p) W w1) ⟨by simpa [TV.partsL] using (HE.out 0).1, (HE.out 0).2⟩ ?_
    rintro w1 ⟨hB1, hF1⟩
    clear HE c0 f0 hB hd1
    go_loopw [19] (fun i wr => ∃ k : Nat, k ≤ len ∧ i = .int .i64 k ∧ x + 1 + TV.partsL (l.take k) ≤ 4096 ∧ Blk wr p 105 #[.int .i64 ((x + 1 + TV.partsL (l.take k) : Nat) : Int)] ∧ Fr (fun k => k = p) W wr) (fun i _ => len - (intOf i).toNat)
    case atStart => exact ⟨0, Nat.zero_le _, rfl, by simp [TV.partsL]; omega, hB1, hF1⟩
    case round =>
      obtain ⟨k, hk, rfl, hle, hBr, hFr⟩ := hrel
      clear hB1 hF1
      have hbr : Below w0.heap.size w0 wr := hW.trans (hFr.below hW.size (fun j hj => by rw [hj]; exact hp))
      by_cases hlt2 : k < len
      · have hkl : k < l.length := by rw [HLEN.out]; exact hlt2
        obtain ⟨b, o, A', c', rfl, h0, h1, h2, h3, hR'⟩ := hR.item hkl
        have hpt := partsL_take l k hkl
        have hpi := parts_item l k hkl
        have e0 := (hbr.cell (World.block_lt_of_cell? w0 _ h0)).trans h0
        have e1 := (hbr.cell (World.block_lt_of_cell? w0 _ h1)).trans h1
        have e2 := (hbr.cell (World.block_lt_of_cell? w0 _ h2)).trans h2
        have e3 := (hbr.cell (World.block_lt_of_cell? w0 _ h3)).trans h3
        have HIH := Lib.hid (ih l[k] A' c' (x + 1 + TV.partsL (l.take k)) p w0 (wr.alloc (.cells #[.int .i64 l[k].kind, .int .i64 l[k].int, .string ⟨l[k].name.toArray⟩, .slice A' l[k].items.length c'] 37)) (by have := HPE.out; omega) hle (below_step hbr (below_alloc _ _)) hp hR' (hBr.alloc _))
        obtain ⟨y, hy⟩ : ∃ y, x + 1 + TV.partsL (l.take k) = y := ⟨_, rfl⟩
        rw [hy] at HIH hle
        have HY := Lib.hid hy
        have HPT := Lib.hid hpt
        generalize l[k] = ti at *
        obtain ⟨tp, htp⟩ : ∃ tp, ti.parts = tp := ⟨_, rfl⟩
        rw [htp] at HIH
        have HTP := Lib.hid htp
        generalize ti.items.length = tl at *
        have q1 : (0 : Int) ≤ (k : Int) := by omega
        have q2 : (k : Int) < (len : Int) := by omega
        have hd2 : decide (k < len) = true := by simp; omega
        clear h0 h1 h2 h3 hy hpt hpi htp hkl hR' hBr
        by_cases hov : y + tp ≤ 4096
        · rw [show CountEnds _ p y tp = _ from rfl] at HIH
          unfold CountEnds at HIH
          rw [countP_yes hov] at HIH
          go_wp2_with (go_at_call 57; refine HIH.out.mono ?_; rintro e w5 ⟨rfl, hB5, hF5⟩)
          go_roundw
          case rel => exact ⟨k + 1, by omega, by go_num, by rw [HPT.out, HTP.out]; have := HY.out; omega, by rw [HPT.out, HTP.out, ← Nat.add_assoc, HY.out]; exact hB5, (hFr.same (Fr.alloc _ _ _)).same hF5⟩
          case measure => simp [intOf]; omega
        · unfold CountEnds at HIH
          rw [countP_no hov] at HIH
          go_wp2_with (go_at_call 57; refine HIH.out.mono ?_; rintro e w5 ⟨rfl, hB5, hF5⟩)
          go_ret
          unfold CountEnds
          have h9 := partsL_take_le l (k + 1)
          rw [HPT.out, HTP.out] at h9
          rw [countP_no (by have := HY.out; have := HPE.out; omega)]
          exact ⟨rfl, hB5, (hFr.same (Fr.alloc _ _ _)).same hF5⟩
      · obtain rfl : k = len := by omega
        have hd2 : decide (k < k) = false := by simp
        rw [List.take_of_length_le (by rw [HLEN.out]; exact Nat.le_refl _)] at hle hBr
        go_wp2_with (fail)
        go_ret
        unfold CountEnds
        rw [countP_yes (by rw [HPE.out]; omega)]
        refine ⟨rfl, ?_, hFr⟩
        rw [HPE.out, show x + (TV.partsL l + 1) = x + 1 + TV.partsL l by omega]
        exact hBr
end Go.Proofs.Ytefnjplfemgibaa
