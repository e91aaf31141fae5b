/- The walk of the statement SpoolLeast: one of four ways. -/
import Derived.Test.YtdmehbejfigaiaaLeastH
namespace Go.Proofs.Ytdmehbejfigaiaa
open Go.RowKit
set_option linter.unusedVariables false
attribute [local go_sem ↓] Go.wp_at_zero Go.wp_at_succ

set_option maxRecDepth 100000 in
set_option maxHeartbeats 8000000 in
theorem least_tt (A : Option Addr) (n c a b : Nat) (l : List UInt8) (w : World) (hl : l.length = n) (hnc : n ≤ c) (hcm : c ≤ 9223372036854775807) (hr : Rd w A l) (h1 : ¬ 20000 < n) (ha : a < 18446744073709551616) (hb : b < 18446744073709551616) (hc1 : Hid (((⟨l, 0, 0, 0⟩ : TS).number false).2.fault = 0)) (hc2 : Hid ((⟨l, 0, 0, 0⟩ : TS).int.2.fault = 0)) :
    Calls Try.prog 3 #[.slice A n c, .int .u64 a, .int .u64 b] w (Yes w) := by
  have HL := Lib.hid hl
  obtain ⟨x, y, hx, hy, qmin, qmax, hxy⟩ : ∃ x y : Nat, x < 18446744073709551616 ∧ y < 18446744073709551616 ∧ min (a : Int) (b : Int) = (x : Int) ∧ max (a : Int) (b : Int) = (y : Int) ∧ x ≤ y := by
    by_cases hab : a ≤ b
    · exact ⟨a, b, ha, hb, by omega, by omega, hab⟩
    · exact ⟨b, a, hb, ha, by omega, by omega, by omega⟩
  obtain ⟨wx, hwx⟩ : ∃ wx, (laidB x 0).length = wx := ⟨_, rfl⟩
  obtain ⟨wy, hwy⟩ : ∃ wy, (laidB y 0).length = wy := ⟨_, rfl⟩
  have hwxy : wx ≤ wy ∧ wy ≤ 9 := by
    have hwm := wid_mono hy hxy
    have := wid_le y
    rw [laidB_len] at hwx hwy
    omega
  have HN1 := Lib.hid (num_one x w (w.alloc (.cells #[.int .u64 (x : Int)] 23)) hx (.inl rfl) wx hwx)
  have HN2 := Lib.hid (fun w1 => num_one y w1 (w1.alloc (.cells #[.int .u64 (y : Int)] 23)) hy (.inl rfl) wy hwy)
  have hd1 : decide (wy < wx) = false := by simp; omega
  have HO := Lib.hid (fun W (hb : Below w.heap.size w W) => open_any A l n c W hl (by omega) (hr.below hb))
  clear hl hxy hwx hwy
  go_enter Try.func3, Try.ntmps3
  go_upto_region 5 with (first
    | (go_at_call 11; have H1 := HN1; clear HN1; refine H1.out.mono ?_; rintro e w1 ⟨A1, c1, rfl, _, hb1⟩)
    | (go_at_call 11; refine (HN2.out w1).mono ?_; rintro e w2 ⟨A2, c2, rfl, _, hb2⟩))
  have hb3 := below_step hb1 hb2
  clear hb1 hb2 H1 HN2 hd1 qmin qmax
  have HO1 := Lib.hid (HO.out w2 hb3)
  go_upto_region 8 with (first
    | (go_at_call 12; have H1 := HO1; clear HO1; refine H1.out.mono ?_; rintro e w3 ⟨pr, Br, cr, rfl, hT3, hB3, hl3⟩; have hb33 := below_step hb3 hT3.bel; have HO2 := Lib.hid (HO.out w3 hb33))
    | (go_at_call 12; refine HO2.out.mono ?_; rintro e w4 ⟨ps, Bs, cs, rfl, hT4, hB4, hl4⟩))
  have hR4 : TOwn w pr Br cr ⟨l, 0, 0, 0⟩ w4 := (⟨hT3.tape, hb33, Nat.le_trans hb3.size hT3.own⟩ : TOwn w pr Br cr _ w3).below hT4.bel
  have hS4 : TOwn w ps Bs cs ⟨l, 0, 0, 0⟩ w4 := ⟨hT4.tape, below_step hb33 hT4.bel, Nat.le_trans hb33.size hT4.own⟩
  have ho4 := hT4.own
  have hBs : ∀ b off, Bs = some ⟨b, off, none⟩ → b ≠ pr := fun b off e => by have := (hB4 b off e).1; omega
  have hBr : ∀ b off, Br = some ⟨b, off, none⟩ → b ≠ ps := fun b off e => by have := (hB3 b off e).2; omega
  have hne : ps ≠ pr := by omega
  have hws := hS4.own
  have hwr := hR4.own
  clear hT3 hT4 hB3 hB4 hl3 hl4 H1 HO2 HO hb3 hb33
  have hlaw1 := number_law l
  have hlaw2 := int_law l
  have hnl := number_lt (t := ⟨l, 0, 0, 0⟩) false
  have HT1 := Lib.hid (tnum_any hR4.tape)
  generalize (⟨l, 0, 0, 0⟩ : TS).number false = X1 at *
  obtain ⟨⟨n1, b1⟩, t1⟩ := X1
  simp only at hlaw1 hnl HT1
  go_upto_region 9 with (go_at_call 13; refine HT1.out.mono ?_; rintro e w5 ⟨rfl, hA5⟩)
  have hR5 := hR4.act hA5
  have hS5 := hS4.far hA5 hne hBs hwr
  clear HT1 hA5 hR4 hS4
  have HF1 := Lib.hid (fault_any hR5.tape)
  go_upto_region 10 with (go_at_call 14; refine HF1.out.mono ?_; rintro e w6 ⟨rfl, q6, rfl⟩)
  have hR6 := hR5.below (below_drewN (Below.refl _ _) q6)
  have hS6 := hS5.below (below_drewN (Below.refl _ _) q6)
  clear HF1 hR5 hS5
  refine wp_world (fun W => TOwn w pr Br cr t1 W ∧ TOwn w ps Bs cs ⟨l, 0, 0, 0⟩ W) ⟨hR6, hS6⟩ ?_
  clear hR6 hS6
  rintro w7 ⟨hR7, hS7⟩
  have HI1 := Lib.hid (tint_any hS7.tape)
  generalize (⟨l, 0, 0, 0⟩ : TS).int = X2 at *
  obtain ⟨m2, t2⟩ := X2
  simp only at hlaw2 HI1
  go_upto_region 11 with (go_at_call 15; refine HI1.out.mono ?_; rintro e w8 ⟨rfl, hA8⟩)
  have hS8 := hS7.act hA8
  have hR8 := hR7.far hA8 (Ne.symm hne) hBr hws
  clear HI1 hA8 hR7 hS7
  have HF2 := Lib.hid (fault_any hS8.tape)
  go_upto_region 12 with (go_at_call 14; refine HF2.out.mono ?_; rintro e w9 ⟨rfl, q9, rfl⟩)
  have hR9 := hR8.below (below_drewN (Below.refl _ _) q9)
  have hS9 := hS8.below (below_drewN (Below.refl _ _) q9)
  refine wp_world (fun W => TOwn w pr Br cr t1 W ∧ TOwn w ps Bs cs t2 W) ⟨hR9, hS9⟩ ?_
  clear HF2 hR8 hS8 hR9 hS9
  rintro w10 ⟨hR, hS⟩
  have HP1 := Lib.hid (fun W (hb : Below w10.heap.size w10 W) => pos_any (hR.below hb).tape)
  have HP2 := Lib.hid (fun W (hb : Below w10.heap.size w10 W) => pos_any (hS.below hb).tape)
  obtain ⟨f1, p1, hf1, hp1⟩ : ∃ f1 p1, t1.fault = f1 ∧ t1.pos = p1 := ⟨_, _, rfl, rfl⟩
  obtain ⟨f2, p2, hf2, hp2⟩ : ∃ f2 p2, t2.fault = f2 ∧ t2.pos = p2 := ⟨_, _, rfl, rfl⟩
  rw [hf1, hp1] at hlaw1
  rw [hf2, hp2] at hlaw2
  rw [hp1] at HP1
  rw [hp2] at HP2
  rw [hf1, hf2]
  have HC1' := Lib.hid (hf1 ▸ hc1.out)
  have HC2' := Lib.hid (hf2 ▸ hc2.out)
  clear hc1 hc2
  clear hf1 hf2 hp1 hp2
  obtain ⟨L1, hL1⟩ : ∃ L1, L1 = l.take p1 := ⟨_, rfl⟩
  obtain ⟨L2, hL2⟩ : ∃ L2, L2 = l.take p2 := ⟨_, rfl⟩
  have hpl1 : p1 ≤ n := by have := HL.out; omega
  have hpl2 : p2 ≤ n := by have := HL.out; omega
  have HC1 := Lib.hid (fun W (hb : Below w10.heap.size w10 W) => show (convert 22 9 (.slice A p1 c)).run Try.prog W = .ok (.string ⟨L1.toArray⟩) W from by
    rw [hL1]
    exact run_str (P := Try.prog) Try.underlying22 Try.underlying5 Try.underlying9 W A p1 c (l.take p1) (by rw [List.length_take, HL.out]; omega) ((hr.below (below_step hR.bel hb)).take1 p1))
  have HC2 := Lib.hid (fun W (hb : Below w10.heap.size w10 W) => show (convert 22 9 (.slice A p2 c)).run Try.prog W = .ok (.string ⟨L2.toArray⟩) W from by
    rw [hL2]
    exact run_str (P := Try.prog) Try.underlying22 Try.underlying5 Try.underlying9 W A p2 c (l.take p2) (by rw [List.length_take, HL.out]; omega) ((hr.below (below_step hR.bel hb)).take1 p2))
  have hw1 : (((f1 : Int) = 3 ∨ (f1 : Int) = 10) ∧ ((n1 : Int) != 0) = false ∧ ((p1 : Int) != 0) = false) ∨ (((f1 : Int) == 0) = true ∧ ((f1 : Int) != 0) = false ∧ laidB n1 0 = L1) := by
    rcases hlaw1 with ⟨e1, e2, e3⟩ | ⟨e1, _, e3⟩
    · exact .inl ⟨by omega, by simp [e2], by simp [e3]⟩
    · exact .inr ⟨by simp [e1], by simp [e1], by rw [hL1]; exact e3⟩
  have hw2 : (((f2 : Int) == 0) = false ∧ ((f2 : Int) != 0) = true ∧ (m2 != 0) = false ∧ ((p2 : Int) != 0) = false) ∨ (((f2 : Int) == 0) = true ∧ ((f2 : Int) != 0) = false ∧ laidI m2 = L2 ∧ -9223372036854775808 ≤ m2 ∧ m2 ≤ 9223372036854775807) := by
    rcases hlaw2 with ⟨e1, e2, e3⟩ | ⟨e1, _, e3, e4, e5⟩
    · exact .inl ⟨by simp [e1], by simp [e1], by simp [e2], by simp [e3]⟩
    · exact .inr ⟨by simp [e1], by simp [e1], by rw [hL2]; exact e3, e4, e5⟩
  have HL1L := Lib.hid (show L1.length = p1 by rw [hL1, List.length_take, HL.out]; omega)
  have HL2L := Lib.hid (show L2.length = p2 by rw [hL2, List.length_take, HL.out]; omega)
  clear hlaw1 hlaw2 hL1 hL2
  have u1 : (0 : Int) ≤ (p1 : Int) := by omega
  have u2 : (p1 : Int) ≤ (c : Int) := by omega
  have u3 : (0 : Int) ≤ (p2 : Int) := by omega
  have u4 : (p2 : Int) ≤ (c : Int) := by omega
  have HB10 := Lib.hid hR.bel
  have s1 := HC1.out w10.drew (Below.refl _ _).drew
  have s2 := HC2.out w10.drew (Below.refl _ _).drew
  clear hR hS
  rcases hw1 with ⟨zf, z3, z4⟩ | ⟨z1, z2, z3⟩
  · exfalso; have := HC1'.out; omega
  · rcases hw2 with ⟨y1, y2, y3, y4⟩ | ⟨y1, y2, y3, y4, y5⟩
    · exact absurd HC2'.out (by simpa using y1)
    · have HI1 := Lib.hid (num_one n1 w10 (w10.alloc (.cells #[.int .u64 (n1 : Int)] 23)).drew hnl (.inr rfl) p1 (by rw [z3]; exact HL1L.out))
      rw [z3] at HI1
      have HI2 := Lib.hid (fun W => int_one m2 W (W.alloc (.cells #[.int .i64 m2] 2)) ⟨y4, y5⟩ (.inl rfl) p2 (by rw [y3]; exact HL2L.out))
      rw [y3] at HI2
      clear z3 y3
      have hcv1 : ∀ (W : World) (A3 : Option Addr) (c3 : Nat), Rd W A3 L1 → (convert 22 9 (.slice A3 p1 c3)).run Try.prog W = .ok (.string ⟨L1.toArray⟩) W := fun W A3 c3 h9 => run_str (P := Try.prog) Try.underlying22 Try.underlying5 Try.underlying9 W A3 p1 c3 L1 HL1L.out h9
      have hcv2 : ∀ (W : World) (A3 : Option Addr) (c3 : Nat), Rd W A3 L2 → (convert 22 9 (.slice A3 p2 c3)).run Try.prog W = .ok (.string ⟨L2.toArray⟩) W := fun W A3 c3 h9 => run_str (P := Try.prog) Try.underlying22 Try.underlying5 Try.underlying9 W A3 p2 c3 L2 HL2L.out h9
      go_upto_region 14 with (first
        | (go_at_call 17; (with_reducible refine (HP1.out w10 (Below.refl _ _)).mono ?_); rintro e w' ⟨rfl, rfl⟩)
        | (go_at_call 17; (with_reducible refine (HP2.out w10 (Below.refl _ _)).mono ?_); rintro e w' ⟨rfl, rfl⟩)
        | (go_at_call 16; refine (numE_any _ _).mono ?_; rintro e w' ⟨rfl, rfl⟩))
      go_region_with ((first
        | (go_at_call 16; refine (numE_any _ _).mono ?_; rintro e w' ⟨rfl, rfl⟩)
        | (go_at_call 11
           refine HI1.out.mono ?_
           rintro e w12 ⟨A3, c3, rfl, hr12, hb12⟩
           have hst3 := HC1.out w12 hb12)
        | (go_at_call 18
           refine (HI2.out w12).mono ?_
           rintro e w13 ⟨A4, c4, rfl, hr13, hb13'⟩
           have hb13 := below_step hb12 hb13'
           have hst4 := HC2.out w13 hb13)
        | (go_at_call 17; first
           | ((with_reducible refine (HP2.out _ hb13).mono ?_); rintro e w' ⟨rfl, rfl⟩)
           | (refine (HP1.out _ hb12).mono ?_; rintro e w' ⟨rfl, rfl⟩))))
      all_goals
       go_wp2_with (go_at_call 10; refine (live_from (below_step HB10.out hb13)).mono ?_; rintro e w14 ⟨rfl, hb14⟩)
       go_ret
       exact ⟨rfl, hb14⟩

end Go.Proofs.Ytdmehbejfigaiaa
