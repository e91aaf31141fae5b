/- Layer 13: the walk of the document's Pattern. Written by magenr.py. -/
import Derived.Test.YtmpknhdfglbocaaGreatMaB
namespace Go.Proofs.YtmpknhdfglbocaaGreat
open Go.RowKit
set_option linter.unusedVariables false

set_option maxRecDepth 100000 in
set_option maxHeartbeats 2000000 in
theorem rpat_k1 (n : Int) (s : List UInt8) (a : Int) (l : List ND) (A : Option Addr) (c : Nat) (v5 v6 : Value) (W : World)  :
    Calls Tryz.prog 17 #[.agg #[.int .i64 1, .int .i64 n, .string ⟨s.toArray⟩, .int .i64 a, .slice A l.length c, v5, v6]] W fun e w' => e = .returned (.bool true) ∧ Below W.heap.size W w' := by
  go_enter Tryz.func17, Tryz.ntmps17
  go_wp2
  go_ret
  exact ⟨rfl, below_alloc _ _⟩

set_option maxRecDepth 100000 in
set_option maxHeartbeats 2000000 in
theorem rpat_k2 (n : Int) (s : List UInt8) (a : Int) (l : List ND) (A : Option Addr) (c : Nat) (v5 v6 : Value) (W : World)  :
    Calls Tryz.prog 17 #[.agg #[.int .i64 2, .int .i64 n, .string ⟨s.toArray⟩, .int .i64 a, .slice A l.length c, v5, v6]] W fun e w' => e = .returned (.bool true) ∧ Below W.heap.size W w' := by
  go_enter Tryz.func17, Tryz.ntmps17
  go_wp2
  go_ret
  exact ⟨rfl, below_alloc _ _⟩

set_option maxRecDepth 100000 in
set_option maxHeartbeats 2000000 in
theorem rpat_k3 (n : Int) (s : List UInt8) (a : Int) (l : List ND) (A : Option Addr) (c : Nat) (v5 v6 : Value) (W : World)  :
    Calls Tryz.prog 17 #[.agg #[.int .i64 3, .int .i64 n, .string ⟨s.toArray⟩, .int .i64 a, .slice A l.length c, v5, v6]] W fun e w' => e = .returned (.bool true) ∧ Below W.heap.size W w' := by
  go_enter Tryz.func17, Tryz.ntmps17
  go_wp2
  go_ret
  exact ⟨rfl, below_alloc _ _⟩

set_option maxRecDepth 100000 in
set_option maxHeartbeats 2000000 in
theorem rpat_k5 (n : Int) (s : List UInt8) (a : Int) (l : List ND) (A : Option Addr) (c : Nat) (v5 v6 : Value) (W : World)  :
    Calls Tryz.prog 17 #[.agg #[.int .i64 5, .int .i64 n, .string ⟨s.toArray⟩, .int .i64 a, .slice A l.length c, v5, v6]] W fun e w' => e = .returned (.bool true) ∧ Below W.heap.size W w' := by
  go_enter Tryz.func17, Tryz.ntmps17
  go_wp2
  go_ret
  exact ⟨rfl, below_alloc _ _⟩

set_option maxRecDepth 100000 in
set_option maxHeartbeats 2000000 in
theorem rpat_k10a (n : Int) (s : List UInt8) (a : Int) (l : List ND) (A : Option Addr) (c : Nat) (v5 v6 : Value) (W : World) (hs : (s == [45]) = false) :
    Calls Tryz.prog 17 #[.agg #[.int .i64 10, .int .i64 n, .string ⟨s.toArray⟩, .int .i64 a, .slice A l.length c, v5, v6]] W fun e w' => e = .returned (.bool false) ∧ Below W.heap.size W w' := by
  generalize l.length = len at *
  go_enter Tryz.func17, Tryz.ntmps17
  go_wp2
  go_ret
  exact ⟨rfl, below_alloc _ _⟩

set_option maxRecDepth 100000 in
set_option maxHeartbeats 2000000 in
theorem rpat_k10b (n : Int) (s : List UInt8) (a : Int) (l : List ND) (A : Option Addr) (c : Nat) (v5 v6 : Value) (W : World) (hl : (l.length == 1) = false) :
    Calls Tryz.prog 17 #[.agg #[.int .i64 10, .int .i64 n, .string ⟨s.toArray⟩, .int .i64 a, .slice A l.length c, v5, v6]] W fun e w' => e = .returned (.bool false) ∧ Below W.heap.size W w' := by
  have d1 : ((l.length : Int) == 1) = false := by
    have h9 : ¬ l.length = 1 := by simpa using hl
    exact beq_eq_false_iff_ne.2 (by omega)
  cases hs : (s == [45]) with
  | false => exact rpat_k10a n s a l A c v5 v6 W hs
  | true =>
  generalize l.length = len at *
  go_enter Tryz.func17, Tryz.ntmps17
  go_wp2
  go_ret
  exact ⟨rfl, below_alloc _ _⟩

set_option maxRecDepth 100000 in
set_option maxHeartbeats 2000000 in
theorem rpat_k10c (n : Int) (s : List UInt8) (a : Int) (l : List ND) (A : Option Addr) (c : Nat) (v5 v6 : Value) (W : World) (hs : (s == [45]) = true) (hl : l.length = 1) (hR : RdN NoB W A c l) :
    Calls Tryz.prog 17 #[.agg #[.int .i64 10, .int .i64 n, .string ⟨s.toArray⟩, .int .i64 a, .slice A l.length c, v5, v6]] W fun e w' => e = .returned (.bool (kid1 l)) ∧ Below W.heap.size W w' := by
  obtain ⟨b, o, x, rfl, hx, hok, e0, e1, e2, e3, e4, e5, e6⟩ := rdn_item hR (k := 0) (by omega)
  have hk : kid1 l = (x.t.kind == 1) := by
    rw [hx]
    match l, hl with
    | [y], _ => rfl
  have hc : 1 ≤ c := by have := hR.1; omega
  rw [hk, hl]
  simp only [Nat.zero_mul, Nat.add_zero] at e0
  have hlt := World.block_lt_of_cell? W _ e0
  generalize x.t.kind = k at *
  clear hx hok hk e1 e2 e3 e4 e5 e6 hR hl
  go_enter Tryz.func17, Tryz.ntmps17
  go_wp2
  go_ret
  exact ⟨rfl, below_alloc _ _⟩

set_option maxRecDepth 100000 in
set_option maxHeartbeats 2000000 in
theorem rpat_k6a (n : Int) (s : List UInt8) (a : Int) (l : List ND) (A : Option Addr) (c : Nat) (v5 v6 : Value) (W : World) (hl : (l.length == 2) = false) :
    Calls Tryz.prog 17 #[.agg #[.int .i64 6, .int .i64 n, .string ⟨s.toArray⟩, .int .i64 a, .slice A l.length c, v5, v6]] W fun e w' => e = .returned (.bool false) ∧ Below W.heap.size W w' := by
  have d1 : ((l.length : Int) != 2) = true := by
    have h9 : ¬ l.length = 2 := by simpa using hl
    simp
    omega
  generalize l.length = len at *
  go_enter Tryz.func17, Tryz.ntmps17
  go_wp2
  go_ret
  exact ⟨rfl, below_alloc _ _⟩

set_option maxRecDepth 100000 in
set_option maxHeartbeats 2000000 in
theorem rpat_k4 (n : Int) (s : List UInt8) (a : Int) (l : List ND) (A : Option Addr) (c : Nat) (v5 v6 : Value) (W : World) (hR : RdN NoB W A c l)  (hp : ∀ (k : Nat) (h : k < l.length) (x : EN) (V : World), x.t = l[k] → Below W.heap.size W V → x.Ok NoB V → Calls Tryz.prog 17 #[.agg #[.int .i64 x.t.kind, .int .i64 x.t.int, .string ⟨x.t.name.toArray⟩, .int .i64 x.t.at_, .slice x.A x.t.kids.length x.c, .slice x.B x.t.clauses.length x.d, .slice x.C x.t.body.length x.e]] V fun e w' => e = .returned (.bool (patB x.t)) ∧ Below V.heap.size V w') :
    Calls Tryz.prog 17 #[.agg #[.int .i64 4, .int .i64 n, .string ⟨s.toArray⟩, .int .i64 a, .slice A l.length c, v5, v6]] W fun e w' => e = .returned (.bool (patL l)) ∧ Below W.heap.size W w' := by
  have hlc := hR.1
  have hlc2 := hR.2.1
  have HR := Lib.hid hR
  have HP := Lib.hid hp
  obtain ⟨len, hlen⟩ : ∃ len, l.length = len := ⟨_, rfl⟩
  have HLEN := Lib.hid hlen
  rw [hlen] at hlc ⊢
  clear hR hp hlen
  obtain ⟨R, hRR⟩ : ∃ R, patL l = R := ⟨_, rfl⟩
  rw [hRR]
  have HRR := Lib.hid hRR
  clear hRR
  go_enter Tryz.func17, Tryz.ntmps17
  go_upto_region 15 with (fail)
  refine wp_world (fun V => Blk V W.heap.size 29 #[.int .i64 4, .int .i64 n, .string ⟨s.toArray⟩, .int .i64 a, .slice A len c, v5, v6] ∧ Below W.heap.size W V) ⟨Blk.new _ _ _, below_alloc _ _⟩ ?_
  rintro V0 ⟨hB, hb0⟩
  have HB := Lib.hid hB
  have HB0 := Lib.hid hb0
  clear hB hb0
  go_loopw [3] (fun i wr => ∃ k : Nat, k ≤ len ∧ i = .int .i64 k ∧ patL (l.take k) = true ∧ Below V0.heap.size V0 wr) (fun i _ => len - (intOf i).toNat)
  case atStart => exact ⟨0, Nat.zero_le _, rfl, by simp [patL], Below.refl _ _⟩
  case round =>
    obtain ⟨k, hk, rfl, hall, hb⟩ := hrel
    have HALL := Lib.hid hall
    clear hall
    have y4 := (HB.out.keep hb).cell 4
    by_cases hlt : k < len
    · have hkl : k < l.length := by rw [HLEN.out]; exact hlt
      obtain ⟨b, o, x, rfl, hx, hok, e0, e1, e2, e3, e4, e5, e6⟩ := rdn_item (HR.out.below (below_step HB0.out hb)) hkl
      have HC := Lib.hid (HP.out k hkl x wr hx (below_step HB0.out hb) hok)
      have HTK := Lib.hid (patL_take l k hkl)
      have HTL := Lib.hid (patL_no l k hkl)
      rw [← hx] at HTK HTL
      have q1 : (0 : Int) ≤ (k : Int) := by omega
      have q2 : (k : Int) < (len : Int) := by omega
      have hd2 : decide (k < len) = true := by simp; omega
      clear hx hok hkl
      cases hti : patB x.t with
      | true =>
        rw [hti] at HC HTK
        go_wp2_with (go_at_call 17; refine HC.out.mono ?_; rintro e w5 ⟨rfl, hb5⟩)
        go_roundw
        case rel => exact ⟨k + 1, by omega, by go_num, by rw [HTK.out, HALL.out]; rfl, below_step hb hb5⟩
        case measure => simp [intOf]; omega
      | false =>
        rw [hti] at HC
        go_wp2_with (go_at_call 17; refine HC.out.mono ?_; rintro e w5 ⟨rfl, hb5⟩)
        go_ret
        exact ⟨by rw [← HRR.out, HTL.out hti]; rfl, below_step (below_step HB0.out hb) hb5⟩
    · obtain rfl : k = len := by omega
      have hd2 : decide (k < k) = false := by simp
      have h9 := HALL.out
      rw [List.take_of_length_le (by rw [HLEN.out]; exact Nat.le_refl _)] at h9
      have HF := Lib.hid (show R = true by rw [← HRR.out, h9])
      clear h9
      go_wp2_with (fail)
      go_ret
      exact ⟨by rw [HF.out]; rfl, below_step HB0.out hb⟩

set_option maxRecDepth 100000 in
set_option maxHeartbeats 2000000 in
theorem rpat_k6b (n : Int) (s : List UInt8) (a : Int) (l : List ND) (A : Option Addr) (c : Nat) (v5 v6 : Value) (W : World) (hR : RdN NoB W A c l) (hl : l.length = 2) (hp : ∀ (k : Nat) (h : k < l.length) (x : EN) (V : World), x.t = l[k] → Below W.heap.size W V → x.Ok NoB V → Calls Tryz.prog 17 #[.agg #[.int .i64 x.t.kind, .int .i64 x.t.int, .string ⟨x.t.name.toArray⟩, .int .i64 x.t.at_, .slice x.A x.t.kids.length x.c, .slice x.B x.t.clauses.length x.d, .slice x.C x.t.body.length x.e]] V fun e w' => e = .returned (.bool (patB x.t)) ∧ Below V.heap.size V w') :
    Calls Tryz.prog 17 #[.agg #[.int .i64 6, .int .i64 n, .string ⟨s.toArray⟩, .int .i64 a, .slice A l.length c, v5, v6]] W fun e w' => e = .returned (.bool (patL l)) ∧ Below W.heap.size W w' := by
  have d1 : ((l.length : Int) != 2) = false := by rw [hl]; rfl
  clear hl
  have hlc := hR.1
  have hlc2 := hR.2.1
  have HR := Lib.hid hR
  have HP := Lib.hid hp
  obtain ⟨len, hlen⟩ : ∃ len, l.length = len := ⟨_, rfl⟩
  have HLEN := Lib.hid hlen
  rw [hlen] at hlc d1 ⊢
  clear hR hp hlen
  obtain ⟨R, hRR⟩ : ∃ R, patL l = R := ⟨_, rfl⟩
  rw [hRR]
  have HRR := Lib.hid hRR
  clear hRR
  go_enter Tryz.func17, Tryz.ntmps17
  go_upto_region 15 with (fail)
  refine wp_world (fun V => Blk V W.heap.size 29 #[.int .i64 6, .int .i64 n, .string ⟨s.toArray⟩, .int .i64 a, .slice A len c, v5, v6] ∧ Below W.heap.size W V) ⟨Blk.new _ _ _, below_alloc _ _⟩ ?_
  rintro V0 ⟨hB, hb0⟩
  have HB := Lib.hid hB
  have HB0 := Lib.hid hb0
  clear hB hb0
  go_loopw [3] (fun i wr => ∃ k : Nat, k ≤ len ∧ i = .int .i64 k ∧ patL (l.take k) = true ∧ Below V0.heap.size V0 wr) (fun i _ => len - (intOf i).toNat)
  case atStart => exact ⟨0, Nat.zero_le _, rfl, by simp [patL], Below.refl _ _⟩
  case round =>
    obtain ⟨k, hk, rfl, hall, hb⟩ := hrel
    have HALL := Lib.hid hall
    clear hall
    have y4 := (HB.out.keep hb).cell 4
    by_cases hlt : k < len
    · have hkl : k < l.length := by rw [HLEN.out]; exact hlt
      obtain ⟨b, o, x, rfl, hx, hok, e0, e1, e2, e3, e4, e5, e6⟩ := rdn_item (HR.out.below (below_step HB0.out hb)) hkl
      have HC := Lib.hid (HP.out k hkl x wr hx (below_step HB0.out hb) hok)
      have HTK := Lib.hid (patL_take l k hkl)
      have HTL := Lib.hid (patL_no l k hkl)
      rw [← hx] at HTK HTL
      have q1 : (0 : Int) ≤ (k : Int) := by omega
      have q2 : (k : Int) < (len : Int) := by omega
      have hd2 : decide (k < len) = true := by simp; omega
      clear hx hok hkl
      cases hti : patB x.t with
      | true =>
        rw [hti] at HC HTK
        go_wp2_with (go_at_call 17; refine HC.out.mono ?_; rintro e w5 ⟨rfl, hb5⟩)
        go_roundw
        case rel => exact ⟨k + 1, by omega, by go_num, by rw [HTK.out, HALL.out]; rfl, below_step hb hb5⟩
        case measure => simp [intOf]; omega
      | false =>
        rw [hti] at HC
        go_wp2_with (go_at_call 17; refine HC.out.mono ?_; rintro e w5 ⟨rfl, hb5⟩)
        go_ret
        exact ⟨by rw [← HRR.out, HTL.out hti]; rfl, below_step (below_step HB0.out hb) hb5⟩
    · obtain rfl : k = len := by omega
      have hd2 : decide (k < k) = false := by simp
      have h9 := HALL.out
      rw [List.take_of_length_le (by rw [HLEN.out]; exact Nat.le_refl _)] at h9
      have HF := Lib.hid (show R = true by rw [← HRR.out, h9])
      clear h9
      go_wp2_with (fail)
      go_ret
      exact ⟨by rw [HF.out]; rfl, below_step HB0.out hb⟩

set_option maxRecDepth 100000 in
set_option maxHeartbeats 2000000 in
theorem rpat_other (k n : Int) (s : List UInt8) (a : Int) (l : List ND) (A : Option Addr) (c : Nat) (v5 v6 : Value) (W : World) (h1 : k ≠ 1) (h2 : k ≠ 2) (h3 : k ≠ 3) (h5 : k ≠ 5) (h10 : k ≠ 10) (h4 : k ≠ 4) (h6 : k ≠ 6) :
    Calls Tryz.prog 17 #[.agg #[.int .i64 k, .int .i64 n, .string ⟨s.toArray⟩, .int .i64 a, .slice A l.length c, v5, v6]] W fun e w' => e = .returned (.bool false) ∧ Below W.heap.size W w' := by
  have d1 : (k == 1) = false := by simpa using h1
  have d2 : (k == 2) = false := by simpa using h2
  have d3 : (k == 3) = false := by simpa using h3
  have d4 : (k == 4) = false := by simpa using h4
  have d5 : (k == 5) = false := by simpa using h5
  have d6 : (k == 6) = false := by simpa using h6
  have d7 : (k == 10) = false := by simpa using h10
  clear h1 h2 h3 h4 h5 h6 h10
  go_enter Tryz.func17, Tryz.ntmps17
  go_wp2
  go_ret
  exact ⟨rfl, below_alloc _ _⟩

/-- Pattern: at every node. -/
theorem rpat_any (N : Nat) : ∀ (x : EN) (W : World), x.t.parts ≤ N → x.Ok NoB W →
    Calls Tryz.prog 17 #[.agg #[.int .i64 x.t.kind, .int .i64 x.t.int, .string ⟨x.t.name.toArray⟩, .int .i64 x.t.at_, .slice x.A x.t.kids.length x.c, .slice x.B x.t.clauses.length x.d, .slice x.C x.t.body.length x.e]] W fun e w' => e = .returned (.bool (patB x.t)) ∧ Below W.heap.size W w' := by
  induction N with
  | zero => intro x W hx; have := x.t.parts_pos; omega
  | succ N ih =>
    intro x W hx hok
    have hR := hok.kids
    have hpe := x.t.parts_eq
    have HP : ∀ (k : Nat) (h : k < x.t.kids.length) (y : EN) (V : World), y.t = x.t.kids[k] → Below W.heap.size W V → y.Ok NoB V → Calls Tryz.prog 17 #[.agg #[.int .i64 y.t.kind, .int .i64 y.t.int, .string ⟨y.t.name.toArray⟩, .int .i64 y.t.at_, .slice y.A y.t.kids.length y.c, .slice y.B y.t.clauses.length y.d, .slice y.C y.t.body.length y.e]] V fun e w' => e = .returned (.bool (patB y.t)) ∧ Below V.heap.size V w' := fun k h y V hy _ hyo => ih y V (by rw [hy]; have := ndparts_item x.t.kids k h; omega) hyo
    rw [patB_eq]
    obtain ⟨kd, hkd⟩ : ∃ kd, x.t.kind = kd := ⟨_, rfl⟩
    rw [hkd]
    by_cases h1 : kd = 1
    · subst h1; exact rpat_k1 _ _ _ _ _ _ _ _ W
    rw [if_neg h1]
    by_cases h2 : kd = 2
    · subst h2; exact rpat_k2 _ _ _ _ _ _ _ _ W
    rw [if_neg h2]
    by_cases h3 : kd = 3
    · subst h3; exact rpat_k3 _ _ _ _ _ _ _ _ W
    rw [if_neg h3]
    by_cases h5 : kd = 5
    · subst h5; exact rpat_k5 _ _ _ _ _ _ _ _ W
    rw [if_neg h5]
    by_cases h10 : kd = 10
    · subst h10
      rw [if_pos rfl]
      cases hs : (x.t.name == [45]) with
      | false => exact rpat_k10a _ _ _ _ _ _ _ _ W hs
      | true =>
        cases hl : (x.t.kids.length == 1) with
        | false => exact rpat_k10b _ _ _ _ _ _ _ _ W hl
        | true => exact rpat_k10c _ _ _ _ _ _ _ _ W hs (by simpa using hl) hR
    rw [if_neg h10]
    by_cases h4 : kd = 4
    · subst h4
      rw [if_pos rfl]
      exact rpat_k4 _ _ _ _ _ _ _ _ W hR HP
    rw [if_neg h4]
    by_cases h6 : kd = 6
    · subst h6
      rw [if_pos rfl]
      cases hl : (x.t.kids.length == 2) with
      | false => exact rpat_k6a _ _ _ _ _ _ _ _ W hl
      | true =>
        rw [Bool.true_and]
        exact rpat_k6b _ _ _ _ _ _ _ _ W hR (by simpa using hl) HP
    rw [if_neg h6]
    exact rpat_other _ _ _ _ _ _ _ _ _ W h1 h2 h3 h5 h10 h4 h6
end Go.Proofs.YtmpknhdfglbocaaGreat
