/- The walk of live: a block, there and back. -/
import Derived.Test.YthdhinhedgcbcaaSame
import Derived.Test.YthdhinhedgcbcaaSealLaw
import Derived.Lib.SlBytesConst
namespace Go.Proofs.Ythdhinhedgcbcaa
open Go.RowKit
set_option linter.unusedVariables false

/-- The block that live makes. -/
def liveB : List UInt8 := sealed 64 75 5 [97, 98]
theorem liveB_put : putP 64 75 5 [97, 98] = (0, liveB) := putP_ok (size := 64) (by omega) (by omega) (by omega) (by simp)
theorem liveB_get : getP liveB = some (75, 5, [97, 98]) := get_sealed (by omega) (by omega) (by omega) (by omega) (by omega) (by simp)
theorem liveB_len : liveB.length = 64 := sealed_len (by omega) (by simp)
theorem liveB_head : liveB.take 13 = [75, 0, 0, 0, 0, 0, 0, 0, 5, 0, 2, 97, 98] := by kernel_rfl

/-- What Get leaves where the bytes are sealed; where not. -/
theorem get_good {A : Option Addr} {n c k num : Nat} {l load : List UInt8} {w : World} (h : getP l = some (k, num, load)) (hc : Calls Try.prog 11 #[.slice A n c] w (GetEnds w l)) :
    Calls Try.prog 11 #[.slice A n c] w fun e w' => ∃ B cB, e = .returned (.tuple #[.agg #[.int .u8 (k : Int), .int .u64 (num : Int), .slice B load.length cB], .int .i64 0]) ∧ Rd w' B load ∧ Below w.heap.size w w' :=
  hc.mono fun e w' ⟨hb, hh⟩ => by
    rcases hh with ⟨h1, _⟩ | ⟨k', num', load', B, cB, h1, h2, h3⟩
    · rw [h] at h1; cases h1
    · rw [h] at h1
      injection h1 with h1
      injection h1 with e1 h1
      injection h1 with e2 e3
      subst e1 e2 e3
      exact ⟨B, cB, h2, h3, hb⟩
theorem get_bad {A : Option Addr} {n c : Nat} {l : List UInt8} {w : World} (h : getP l = none) (hc : Calls Try.prog 11 #[.slice A n c] w (GetEnds w l)) :
    Calls Try.prog 11 #[.slice A n c] w fun e w' => e = .returned (.tuple #[.agg #[.int .u8 0, .int .u64 0, .slice none 0 0], .int .i64 30]) ∧ Below w.heap.size w w' :=
  hc.mono fun e w' ⟨hb, hh⟩ => by
    rcases hh with ⟨_, h1⟩ | ⟨k', num', load', B, cB, h1, _⟩
    · exact ⟨h1, hb⟩
    · rw [h] at h1; cases h1

/-- A literal's bytes, marked. -/
theorem rd_lit (w : World) (l : List UInt8) (t : Nat) (fr : Nat × Nat) : Rd (w.alloc (.cells (l.map bv).toArray t fr)) (some ⟨w.heap.size, 0, none⟩) l := by
  refine .inr ⟨w.heap.size, 0, rfl, fun j hj => ?_⟩
  rw [cell_of_row _ w.heap.size (0 + j) (l.map bv).toArray t fr (heap_alloc_new w _)]
  simp [hj]

set_option maxHeartbeats 1000000 in
theorem live_any (w : World) : Calls Try.prog 8 #[] w fun e w' => e = .returned (.bool true) ∧ Below w.heap.size w w' := by
  have kc := fun (w : World) (C : Array Value) (n c : Nat) => Lib.run_convert_bytes_const (P := Try.prog) w 23 5 C n c Try.underlying23 Try.underlying5
  have HP := Lib.hid (put_good liveB_put (put_any 64 75 5 (some ⟨w.heap.size, 0, none⟩) 2 2 [97, 98] (w.alloc (.cells #[.int .u8 97, .int .u8 98] 5 (2, 3))) (by omega) (by omega) rfl (rd_lit w [97, 98] 5 (2, 3))))
  go_enter Try.func8, Try.ntmps8
  go_upto_region 2 with (go_at_call 9; refine HP.out.mono ?_; rintro e w1 ⟨g, rfl, hb1, hg1, hB1, hlen1⟩)
  have hbw1 : Below w.heap.size w w1 := (below_alloc w _).trans (hb1.mono (by simp))
  have hrd1 : Rd w1 (some ⟨g, 0, none⟩) liveB := by have := hB1.rd0 64; rwa [List.take_of_length_le (by rw [liveB_len]; omega)] at this
  clear hb1 hg1 hlen1 kc HP
  have HG := Lib.hid (get_good liveB_get (get_any (some ⟨g, 0, none⟩) 64 64 liveB w1 liveB_len (by omega) (by omega) hrd1))
  go_upto_region 3 with (go_at_call 11; refine HG.out.mono ?_; rintro e w2 ⟨B, cB, rfl, hrd2, hb2⟩)
  refine wp_world (fun W => Below w.heap.size w W ∧ Rd W (some ⟨g, 0, none⟩) liveB ∧ Blk W w2.heap.size 25 #[.int .u8 75, .int .u64 5, .slice B 2 cB] ∧ Rd W B [97, 98]) ⟨?_, ?_, ?_, ?_⟩ ?_
  · exact (below_step hbw1 hb2).alloc (Nat.le_trans hbw1.size hb2.size) _
  · exact (hrd1.below hb2).below (below_alloc _ _)
  · exact Blk.new _ _ _
  · exact hrd2.below (below_alloc _ _)
  clear hrd2 hrd1 hB1 HG
  rintro w3 ⟨hb3, hrd3, hB3, hrb3⟩
  have hmk : (Instr.makeSlice 23 (.int .i64 64) (.int .i64 64)).run Try.prog w3 = .ok (.slice (some ⟨w3.heap.size, 0, none⟩) 64 64) (w3.alloc (.cells (zerosB 64) 5)) := run_make_bytes (P := Try.prog) bytesT 64 (by omega) w3
  have hz : Rd (w3.alloc (.cells (zerosB 64) 5)) (some ⟨w3.heap.size, 0, none⟩) (List.replicate 64 0) := by
    have := (Blk.new w3 5 (zerosB 64)).rd0 (l := List.replicate 64 0) 64
    rwa [List.take_of_length_le (by simp)] at this
  have HN := Lib.hid (get_bad get_zeros (get_any (some ⟨w3.heap.size, 0, none⟩) 64 64 (List.replicate 64 0) (w3.alloc (.cells (zerosB 64) 5)) (by simp) (by omega) (by omega) hz))
  have HB3 := Lib.hid hB3
  clear hz hB3
  go_upto_region 4 with (go_at_call 11; refine HN.out.mono ?_; rintro e w4 ⟨rfl, hb4⟩)
  refine wp_world (fun W => Below w.heap.size w W ∧ Rd W (some ⟨g, 0, none⟩) liveB ∧ Blk W w2.heap.size 25 #[.int .u8 75, .int .u64 5, .slice B 2 cB] ∧ Rd W B [97, 98]) ?_ ?_
  · have h5 : Below w3.heap.size w3 w4 := (below_alloc w3 _).trans (hb4.mono (by simp))
    exact ⟨(below_step hb3 h5).alloc (Nat.le_trans hb3.size h5.size) _, (hrd3.below h5).below (below_alloc _ _), (HB3.out.keep h5).alloc _, (hrb3.below h5).below (below_alloc _ _)⟩
  clear hb3 hb4 hrd3 HB3 hrb3 hmk HN
  rintro w5 ⟨hb5, hrd5, hB5, hrb5⟩
  have hx0 := hB5.cell 0
  have hx1 := hB5.cell 1
  have hx2 := hB5.cell 2
  have hst := run_str (P := Try.prog) Try.underlying23 Try.underlying5 Try.underlying9 w5 (some ⟨g, 0, none⟩) 13 64 [75, 0, 0, 0, 0, 0, 0, 0, 5, 0, 2, 97, 98] rfl (by
    have := hrd5.sub 0 13
    rw [Nat.add_zero, List.drop_zero, liveB_head] at this
    exact this)
  have kc := Lib.run_convert_bytes_const (P := Try.prog) w5 23 5 #[.int .u8 97, .int .u8 98] 2 2 Try.underlying23 Try.underlying5
  have HS := Lib.hid (same_any 75 75 5 5 B (some ⟨w5.heap.size, 0, none⟩) 2 cB 2 2 [97, 98] [97, 98] (w5.alloc (.cells #[.int .u8 97, .int .u8 98] 5 (2, 3))) rfl rfl (hrb5.below (below_alloc _ _)) (rd_lit w5 [97, 98] 5 (2, 3)))
  have HT := Lib.hid (show sameB 75 75 5 5 [97, 98] [97, 98] = true by decide)
  go_wp2_with (first
    | (go_at_call 10; refine (num_any _ _).mono ?_; rintro e w' ⟨rfl, rfl⟩)
    | (go_at_call 12; refine HS.out.mono ?_; rintro e w6 ⟨rfl, hb6⟩; rw [HT.out]))
  go_ret
  exact ⟨rfl, hb5.trans (((below_alloc w5 _).trans (hb6.mono (by simp))).mono hb5.size)⟩
end Go.Proofs.Ythdhinhedgcbcaa
