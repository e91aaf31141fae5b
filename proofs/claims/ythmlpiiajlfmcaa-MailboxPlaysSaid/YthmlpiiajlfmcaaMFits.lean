/- The walk of fits of the statements of layer 17. -/
import Derived.Test.YthmlpiiajlfmcaaMWord
import Derived.Test.YthmlpiiajlfmcaaOpenM
namespace Go.Proofs.Ythmlpiiajlfmcaa
open Go.RowKit
set_option linter.unusedVariables false

def MFitsEnds (W : World) (len : Nat) (e : Ending) (w' : World) : Prop := ∃ b : Bool, e = .returned (.bool b) ∧ (b = true → len ≤ 200) ∧ Below W.heap.size W w'

set_option maxRecDepth 100000 in
set_option maxHeartbeats 2000000 in
theorem mfits_any (l : List MAct) (A : Option Addr) (len c : Nat) (W : World) (hlen : l.length = len) (hR : RdMA W A c l) :
    Calls Try.prog 8 #[.slice A len c] W (MFitsEnds W len) := by
  have HLEN := Lib.hid hlen
  have hlc : len ≤ 9223372036854775807 := by have := hR.1; have := hR.2.1; omega
  clear hlen
  go_enter Try.func8, Try.ntmps8
  go_wp2
  go_loopw [3, 4] (fun u i wr => ∃ (k : Nat) (q : Int), k ≤ len ∧ k ≤ 201 ∧ i = .int .i64 k ∧ 0 ≤ q ∧ q ≤ 12288 ∧ u = .int .i64 q ∧ Below W.heap.size W wr) (fun _ i _ => len - (intOf i).toNat)
  case atStart => exact ⟨0, 12288, Nat.zero_le _, by omega, rfl, by omega, by omega, rfl, Below.refl _ _⟩
  case round =>
    obtain ⟨k, q, hk, hk2, rfl, hq0, hq1, rfl, hb⟩ := hrel
    by_cases hlt : k < len
    · have hd1 : decide (k < len) = true := by simpa using hlt
      by_cases hle : k ≤ 200
      · have hd2 : decide ((k : Int) ≤ 200) = true := by simp; omega
        have hkl : k < l.length := by rw [HLEN.out]; exact hlt
        obtain ⟨b, o, A1, c1, rfl, h0, h1, h2, h3, h4, h5, hR1⟩ := hR.item hkl
        have e1 := (hb.cell (World.block_lt_of_cell? W _ h1)).trans h1
        have e2 := (hb.cell (World.block_lt_of_cell? W _ h2)).trans h2
        have e3 := (hb.cell (World.block_lt_of_cell? W _ h3)).trans h3
        have e4 := (hb.cell (World.block_lt_of_cell? W _ h4)).trans h4
        generalize l[k] = a at *
        obtain ⟨ak, t, an⟩ := a
        simp only at h1 h2 h3 h4 e1 e2 e3 e4 hR1
        have HS : Hid (∀ V, Below wr.heap.size wr V → V.cell? ⟨b, o + k * 6 + 1, none⟩ = some (.int .i64 t.kind) ∧ V.cell? ⟨b, o + k * 6 + 2, none⟩ = some (.int .i64 t.int) ∧ V.cell? ⟨b, o + k * 6 + 3, none⟩ = some (.string ⟨t.name.toArray⟩) ∧ V.cell? ⟨b, o + k * 6 + 4, none⟩ = some (.slice A1 t.items.length c1)) := fun V hV =>
          ⟨(hV.cell (World.block_lt_of_cell? wr _ e1)).trans e1, (hV.cell (World.block_lt_of_cell? wr _ e2)).trans e2, (hV.cell (World.block_lt_of_cell? wr _ e3)).trans e3, (hV.cell (World.block_lt_of_cell? wr _ e4)).trans e4⟩
        have HF := Lib.hid (fun V g (hV : Below W.heap.size W V) (hB : Blk V g 35 #[.int .i64 t.kind, .int .i64 t.int, .string ⟨t.name.toArray⟩, .slice A1 t.items.length c1]) =>
          fits_any [t] (some ⟨g, 0, none⟩) 1 1 q V V rfl hq0 (by omega) (Below.refl _ _) (rdm_one (⟨t, A1, c1, hR1⟩ : TE W) hB hV))
        have HZ := Lib.hid (fun V (hV : Below W.heap.size W V) => rsize_any t A1 c1 W V hV hR1)
        have q1 : (0 : Int) ≤ (k : Int) := by omega
        have q2 : (k : Int) < (len : Int) := by omega
        have hps : TV.partsL [t] = t.parts := by simp [TV.partsL]
        rw [hps] at HF
        have hsz : (t.parts : Int) ≤ q → 0 ≤ q - (sizeP t.parts : Nat) ∧ q - (sizeP t.parts : Nat) ≤ 12288 := fun h => by unfold sizeP; split <;> omega
        clear h0 h1 h2 h3 h4 h5 hkl hps
        by_cases hf : (t.parts : Int) ≤ q
        · have hd3 : decide ((t.parts : Int) ≤ q) = true := by simpa using hf
          rw [hd3] at HF
          obtain ⟨z1, z2⟩ := hsz hf
          generalize sizeP t.parts = z at *
          clear hd3 hf hsz
          go_upto_region 7 with (go_at_call 26; refine (HF.out _ _ (below_step hb (below_alloc _ _)) (Blk.new _ _ _)).mono ?_; rintro e w5 ⟨rfl, hb5⟩)
          obtain ⟨e1, e2, e3, e4⟩ := HS.out w5 (below_step (below_alloc _ _) hb5)
          have hb6 := below_step (below_step hb (below_alloc _ _)) hb5
          go_wp2_with (go_at_call 24; refine (HZ.out _ hb6).mono ?_; rintro e w6 ⟨rfl, hb7⟩)
          go_roundw
          case rel => exact ⟨k + 1, q - (z : Nat), by omega, by omega, by go_num, z1, z2, rfl, below_step hb6 hb7⟩
          case measure => simp [intOf]; omega
        · have hd3 : decide ((t.parts : Int) ≤ q) = false := by simpa using hf
          rw [hd3] at HF
          clear hd3 hf hsz
          go_wp2_with (go_at_call 26; refine (HF.out _ _ (below_step hb (below_alloc _ _)) (Blk.new _ _ _)).mono ?_; rintro e w5 ⟨rfl, hb5⟩)
          go_ret
          exact ⟨false, rfl, (fun h => by cases h), below_step (below_step hb (below_alloc _ _)) hb5⟩
      · have hd2 : decide ((k : Int) ≤ 200) = false := by simp; omega
        have hd3 : decide ((len : Int) ≤ 200) = false := by simp; omega
        go_wp2
        go_ret
        exact ⟨false, rfl, (fun h => by cases h), hb⟩
    · obtain rfl : k = len := by omega
      have hd1 : decide (k < k) = false := by simp
      by_cases hle : k ≤ 200
      · have hd2 : decide ((k : Int) ≤ 200) = true := by simp; omega
        go_wp2
        go_ret
        exact ⟨true, rfl, fun _ => hle, hb⟩
      · have hd2 : decide ((k : Int) ≤ 200) = false := by simp; omega
        go_wp2
        go_ret
        exact ⟨false, rfl, (fun h => by cases h), hb⟩
end Go.Proofs.Ythmlpiiajlfmcaa
