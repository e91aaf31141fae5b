/- The walk of live of the statements of layer 1. -/
import Derived.Test.YtdmehbejfigaiaaTapeD
import Derived.Test.YtdmehbejfigaiaaSum
import Derived.Lib.SlBytesConst
import Derived.Lib.SmallJoins
namespace Go.Proofs.Ytdmehbejfigaiaa
open Go.RowKit
set_option linter.unusedVariables false

def Yes (w : World) (e : Ending) (w' : World) : Prop := e = .returned (.bool true) ∧ Below w.heap.size w w'

theorem rd_lit (w : World) (l : List UInt8) (t : Nat) (fr : Nat × Nat) : Rd (w.alloc (.cells (l.map bv).toArray t fr)) (some ⟨w.heap.size, 0, none⟩) l := by
  refine .inr ⟨w.heap.size, 0, rfl, fun j hj => ?_⟩
  rw [cell_of_row _ w.heap.size (0 + j) (l.map bv).toArray t fr (heap_alloc_new w _)]
  simp [hj]
theorem rdl_two {W : World} {B C : Option Addr} {l m : List UInt8} {n c n' c' t : Nat} (h : Rd W B l) (hl : l.length = n) (h' : Rd W C m) (hm : m.length = n') : RdL (W.alloc (.cells #[.slice B n c, .slice C n' c'] t)) (some ⟨W.heap.size, 0, none⟩) [l, m] := by
  refine .inr ⟨W.heap.size, 0, rfl, fun j hj => ?_⟩
  subst hl hm
  rcases j with _ | _ | j
  · exact ⟨B, c, (Blk.new W t _).cell 0, h.below (below_alloc _ _)⟩
  · exact ⟨C, c', (Blk.new W t _).cell 1, h'.below (below_alloc _ _)⟩
  · simp at hj; omega
theorem rdk_one (K : IntKind) (w : World) (x : Int) (t : Nat) : RdK K (w.alloc (.cells #[.int K x] t)) (some ⟨w.heap.size, 0, none⟩) [x] := by
  refine .inr ⟨w.heap.size, 0, rfl, fun j hj => ?_⟩
  simp at hj
  subst hj
  exact (Blk.new w t #[.int K x]).cell 0

theorem Ga.rd2 {w : World} {base : Nat} {v : Value} {l : List UInt8} (h : Ga w base v l) (hl : l.length ≤ 9223372036854775807) : ∃ A c, v = .slice A l.length c ∧ Rd w A l ∧ l.length ≤ c ∧ c ≤ 9223372036854775807 := by
  rcases h with h | ⟨A, hv, hr⟩
  · obtain ⟨A, c, hv, hr, _, hc⟩ := own_rd h
    refine ⟨A, c, hv, hr, hc, ?_⟩
    rcases h.2 with ⟨hv2, _⟩ | ⟨g, cap, cur, hv2, _, _, _, h10, _⟩
    · rw [hv] at hv2
      have := (Value.slice.inj hv2).2.2; omega
    · rw [hv] at hv2
      have := (Value.slice.inj hv2).2.2; unfold maxLen at h10; omega
  · exact ⟨A, _, hv, hr, Nat.le_refl _, hl⟩
theorem lv_b1 : [] ++ laidL [300] = [2, 1, 44] := by decide +kernel
theorem lv_b2 : [2, 1, 44] ++ laidIs [-1] = [2, 1, 44, 128] := by decide +kernel
def lvr0 : TS := ⟨[2, 1, 44, 128], 0, 0, 0⟩
def lvr1 : TS := ⟨[2, 1, 44, 128], 3, 0, 0⟩
def lvr2 : TS := ⟨[2, 1, 44, 128], 4, 0, 0⟩
def lvs0 : TS := ⟨[1, 0], 0, 0, 0⟩
def lvs1 : TS := ⟨[1, 0], 0, 10, 0⟩
theorem lv1 : lvr0.number false = ((300, false), lvr1) := by rfl
theorem lv2 : lvr1.int = (-1, lvr2) := by rfl
theorem lv3 : lvr2.end_ = 0 := by rfl
theorem lv4 : lvs0.number false = ((0, false), lvs1) := by rfl
theorem lv_crc : crc [49, 50, 51, 52, 53, 54, 55, 56, 57] = 3808858755 := by decide +kernel

set_option maxHeartbeats 2000000 in
theorem live_any (w : World) : Calls Try.prog 10 #[] w (Yes w) := by
  have HN := Lib.hid (num_lay none (some ⟨w.heap.size, 0, none⟩) [] [300] 0 0 1 1 (w.alloc (.cells #[.int .u64 300] 23)) rfl rfl (Nat.le_refl _) (by omega) (.inl rfl) (rdk_one .u64 w 300 23) (by intro x hx; simp at hx; subst hx; omega) (by omega))
  go_enter Try.func10, Try.ntmps10
  go_upto_region 2 with (first
    | (go_at_call 11; refine HN.out.mono ?_; rintro e w1 ⟨v, rfl, hga, hb1⟩; rw [lv_b1] at hga; obtain ⟨A1, cA1, rfl, hr1, hc1, hm1⟩ := hga.rd2 (by simp))
    | (go_at_call 18; refine (int_lay A1 (some ⟨w1.heap.size, 0, none⟩) [2, 1, 44] [-1] 3 cA1 1 1 (w1.alloc (.cells #[.int .i64 (-1)] 2)) rfl rfl hc1 hm1 (hr1.below (below_alloc _ _)) (rdk_one .i64 w1 (-1) 2) (by intro x hx; simp at hx; subst hx; omega) (by omega)).mono ?_; rintro e w2 ⟨v2, rfl, hga2, hb2⟩; rw [lv_b2] at hga2; obtain ⟨A2, cA2, rfl, hr2, hc2, hm2⟩ := hga2.rd2 (by simp)))
  have hbw : Below w.heap.size w w2 := below_step (below_step (below_step (below_alloc w _) hb1) (below_alloc w1 _)) hb2
  refine wp_world (fun W => Below w.heap.size w W ∧ Rd W A2 [2, 1, 44, 128]) ⟨hbw, hr2⟩ ?_
  clear hbw hr2 hb1 hb2 hga hga2 hr1 hc1 hm1 HN
  rintro w3 ⟨hb3, hr3⟩
  have HO := Lib.hid (open_any A2 [2, 1, 44, 128] 4 cA2 w3 rfl (by omega) hr3)
  go_upto_region 3 with (go_at_call 12; refine HO.out.mono ?_; rintro e w4 ⟨pr, Br, cr, rfl, hT4, hB4, hl4⟩)
  have hr4 := hr3.below hT4.bel
  have hT4' : TOwn w pr Br cr lvr0 w4 := ⟨hT4.tape, below_step hb3 hT4.bel, Nat.le_trans hb3.size hT4.own⟩
  have hs4 := hb3.size
  have ho4 := hT4.own
  refine wp_world (fun W => TOwn w pr Br cr lvr0 W ∧ Rd W A2 [2, 1, 44, 128] ∧ (∀ b off, Br = some ⟨b, off, none⟩ → b < pr) ∧ pr < W.heap.size) ⟨hT4', hr4, fun b off e => (hB4 b off e).2, hl4⟩ ?_
  clear hT4 hT4' hr4 hB4 hl4 HO hr3 hb3
  rintro w5 ⟨hT5, hr5, hB5, hl5⟩
  have HO := Lib.hid (open_any (some ⟨w5.heap.size, 0, none⟩) [1, 0] 2 2 (w5.alloc (.cells #[.int .u8 1, .int .u8 0] 5)) rfl (by omega) (rd_lit w5 [1, 0] 5 (0, 0)))
  go_upto_region 4 with (go_at_call 12; refine HO.out.mono ?_; rintro e w6 ⟨ps, Bs, cs, rfl, hT6, hB6, hl6⟩)
  have ho6 : w5.heap.size + 1 ≤ ps := by have := hT6.own; simp at this; exact this
  have hb56 : Below w5.heap.size w5 w6 := (below_alloc w5 _).trans (hT6.bel.mono (by simp))
  have hTr6 := hT5.below hb56
  have hTs6 : TOwn w ps Bs cs lvs0 w6 := ⟨hT6.tape, below_step hT5.bel hb56, by have := hT5.bel.size; omega⟩
  have hr6 := hr5.below hb56
  have hBs : ∀ b off, Bs = some ⟨b, off, none⟩ → b ≠ pr := fun b off e => by have := (hB6 b off e).1; simp at this; omega
  have hBr : ∀ b off, Br = some ⟨b, off, none⟩ → b ≠ ps := fun b off e => by have := hB5 b off e; omega
  have hne : ps ≠ pr := by omega
  have hws : w.heap.size ≤ ps := hTs6.own
  have hwr : w.heap.size ≤ pr := hTr6.own
  refine wp_world (fun W => TOwn w pr Br cr lvr0 W ∧ TOwn w ps Bs cs lvs0 W ∧ Rd W A2 [2, 1, 44, 128]) ⟨hTr6, hTs6, hr6⟩ ?_
  clear hTr6 hTs6 hr6 hT6 hT5 hr5 hb56 HO
  rintro w7 ⟨hR7, hS7, hr7⟩
  have hst := run_str (P := Try.prog) Try.underlying22 Try.underlying5 Try.underlying9 w7 A2 4 cA2 [2, 1, 44, 128] rfl hr7
  have HN1 := Lib.hid (tnum_any hR7.tape)
  rw [lv1] at HN1
  go_upto_region 6 with (first
    | (go_at_call 13; (with_reducible refine HN1.out.mono ?_); rintro e w8 ⟨rfl, hA8⟩; have hR8 := hR7.act hA8; have hS8 := hS7.far hA8 hne hBs hwr; have HI8 := Lib.hid (tint_any hR8.tape); rw [lv2] at HI8)
    | (go_at_call 15; refine HI8.out.mono ?_; rintro e w9 ⟨rfl, hA9⟩; have hR9 := hR8.act hA9; have hS9 := hS8.far hA9 hne hBs hwr; have HN9 := Lib.hid (tnum_any hS9.tape); rw [lv4] at HN9)
    | (go_at_call 13; refine HN9.out.mono ?_; rintro e w10 ⟨rfl, hA10⟩; have hS10 := hS9.act hA10; have hR10 := hR9.far hA10 (Ne.symm hne) hBr hws; have HE10 := Lib.hid (tend_any hR10.tape); rw [lv3] at HE10)
    | (go_at_call 27; refine HE10.out.mono ?_; rintro e w11 ⟨rfl, q11, rfl⟩)
    | (go_at_call 16; refine (numE_any _ _).mono ?_; rintro e w' ⟨rfl, rfl⟩))
  have hS11 := hS10.below (below_drewN (Below.refl _ _) q11)
  refine wp_world (fun W => TOwn w ps Bs cs lvs1 W) hS11 ?_
  clear hR7 hS7 hR8 hS8 hR9 hS9 hS10 hR10 hS11 hst HN1 HI8 HN9 HE10 hr7 hA8 hA9 hA10
  intro w12 hS12
  have HF := Lib.hid (fault_any hS12.tape)
  rw [show ((lvs1.fault : Nat) : Int) = 10 from rfl, show ((lvs1.spot : Nat) : Int) = 0 from rfl] at HF
  go_upto_region 7 with (go_at_call 14; refine HF.out.mono ?_; rintro e w13 ⟨rfl, q13, rfl⟩)
  refine wp_world (fun W => Below w.heap.size w W) (below_drewN hS12.bel q13) ?_
  clear hS12 HF
  intro w14 hb14
  have kc := fun (w : World) (C : Array Value) (n c : Nat) => Lib.run_convert_bytes_const (P := Try.prog) w 22 5 C n c Try.underlying22 Try.underlying5
  have kc2 := Joins.run_convert_bytes_const_at (P := Try.prog) (w14.alloc (.cells #[.int .u8 49, .int .u8 50, .int .u8 51, .int .u8 52] 5 (4, 5))) 22 5 #[.int .u8 53, .int .u8 54, .int .u8 55, .int .u8 56, .int .u8 57] 5 5 (w14.heap.size + 1) (by simp) Try.underlying22 Try.underlying5
  have HS := Lib.hid (sum_any (some ⟨w14.heap.size + 1 + 1, 0, none⟩) [[49, 50, 51, 52], [53, 54, 55, 56, 57]] [49, 50, 51, 52, 53, 54, 55, 56, 57] 2 2 (((w14.alloc (.cells #[.int .u8 49, .int .u8 50, .int .u8 51, .int .u8 52] 5 (4, 5))).alloc (.cells #[.int .u8 53, .int .u8 54, .int .u8 55, .int .u8 56, .int .u8 57] 5 (5, 6))).alloc (.cells #[.slice (some ⟨w14.heap.size, 0, none⟩) 4 4, .slice (some ⟨w14.heap.size + 1, 0, none⟩) 5 5] 22)) rfl rfl (by omega) (by simp) (by
    have h1 := rdl_two (t := 22) (c := 4) (c' := 5) ((rd_lit w14 [49, 50, 51, 52] 5 (4, 5)).below (below_alloc _ (.cells #[.int .u8 53, .int .u8 54, .int .u8 55, .int .u8 56, .int .u8 57] 5 (5, 6)))) rfl (rd_lit (w14.alloc (.cells #[.int .u8 49, .int .u8 50, .int .u8 51, .int .u8 52] 5 (4, 5))) [53, 54, 55, 56, 57] 5 (5, 6)) rfl
    simp only [World.size_alloc] at h1
    exact h1))
  rw [show ((crc [49, 50, 51, 52, 53, 54, 55, 56, 57] : Nat) : Int) = 3808858755 by rw [lv_crc]; rfl] at HS
  go_wp2_with (first
    | (go_at_call 16; refine (numE_any _ _).mono ?_; rintro e w' ⟨rfl, rfl⟩)
    | (go_at_call 19; refine HS.out.mono ?_; rintro e w15 ⟨rfl, hb15⟩))
  go_ret
  exact ⟨rfl, below_step (((hb14.alloc hb14.size _).alloc (Nat.le_trans hb14.size (by simp)) _).alloc (Nat.le_trans hb14.size (by simp; omega)) _) hb15⟩

theorem live_from {w W : World} (h : Below w.heap.size w W) : Calls Try.prog 10 #[] W (Yes w) :=
  (live_any W).mono fun e w' ⟨he, hb⟩ => ⟨he, below_step h hb⟩
end Go.Proofs.Ytdmehbejfigaiaa
