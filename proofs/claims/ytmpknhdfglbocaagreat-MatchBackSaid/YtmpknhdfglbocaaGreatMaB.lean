/- Layer 13: the walk of the program's pattern. Written by magenb.py. -/
import Derived.Test.YtmpknhdfglbocaaGreatMaA
import Derived.Test.YtmpknhdfglbocaaGreatPaE
namespace Go.Proofs.YtmpknhdfglbocaaGreat
open Go.RowKit
set_option linter.unusedVariables false

/-- No block at all. -/
abbrev NoB : Nat → Prop := fun _ => False
theorem RdN.below {S : Nat → Prop} {W W' : World} {A : Option Addr} {c : Nat} {l : List ND} (h : RdN S W A c l) (hb : Below W.heap.size W W') : RdN S W' A c l := h.move (.of_below hb fun _ _ h => h)
theorem EN.Ok.below {S : Nat → Prop} {W W' : World} {x : EN} (h : x.Ok S W) (hb : Below W.heap.size W W') : x.Ok S W' := h.move (.of_below hb fun _ _ h => h)
theorem patL_two : ∀ {l : List ND} (h : l.length = 2), patL l = (patB (l[0]'(by omega)) && patB (l[1]'(by omega)))
  | [y, z], _ => by simp [patL]
/-- A node of a slice, read. -/
theorem rdn_item {S : Nat → Prop} {W : World} {A : Option Addr} {c : Nat} {l : List ND} (h : RdN S W A c l) {k : Nat} (hk : k < l.length) : ∃ b o, ∃ x : EN, A = some ⟨b, o, none⟩ ∧ x.t = l[k] ∧ x.Ok S W ∧ W.cell? ⟨b, o + k * 7, none⟩ = some (.int .i64 x.t.kind) ∧ W.cell? ⟨b, o + k * 7 + 1, none⟩ = some (.int .i64 x.t.int) ∧ W.cell? ⟨b, o + k * 7 + 2, none⟩ = some (.string ⟨x.t.name.toArray⟩) ∧ W.cell? ⟨b, o + k * 7 + 3, none⟩ = some (.int .i64 x.t.at_) ∧ W.cell? ⟨b, o + k * 7 + 4, none⟩ = some (.slice x.A x.t.kids.length x.c) ∧ W.cell? ⟨b, o + k * 7 + 5, none⟩ = some (.slice x.B x.t.clauses.length x.d) ∧ W.cell? ⟨b, o + k * 7 + 6, none⟩ = some (.slice x.C x.t.body.length x.e) := by
  rcases h.2.2 with rfl | ⟨b, o, hA, _, hr⟩
  · simp at hk
  · obtain ⟨xs, h1, h2, h3⟩ := (nd_row _ _ _).1 hr
    subst h1
    have hk' : k < xs.length := by simpa using hk
    have hc : ∀ i u, i < 7 → xs[k].cells[i]? = some u → W.cell? ⟨b, o + k * 7 + i, none⟩ = some u := fun i u hi hu => by
      rw [Nat.add_assoc]
      exact h3 _ u ((flat_at EN.cells_len xs k i hk' hi).trans hu)
    exact ⟨b, o, xs[k], hA, by simp, h2 _ (List.getElem_mem hk'), hc 0 _ (by omega) rfl, hc 1 _ (by omega) rfl, hc 2 _ (by omega) rfl, hc 3 _ (by omega) rfl, hc 4 _ (by omega) rfl, hc 5 _ (by omega) rfl, hc 6 _ (by omega) rfl⟩

set_option maxHeartbeats 2000000 in
theorem idx_pat (l : List ND) (A : Option Addr) (len c : Nat) (W : World) (hlen : l.length = len) (hR : RdN NoB W A c l)
    (hf : ∀ (k : Nat) (h : k < l.length) (x : EN) (V : World), x.t = l[k] → Below W.heap.size W V → x.Ok NoB V → Calls Tryz.prog 46 #[.agg #[.int .i64 x.t.kind, .int .i64 x.t.int, .string ⟨x.t.name.toArray⟩, .int .i64 x.t.at_, .slice x.A x.t.kids.length x.c, .slice x.B x.t.clauses.length x.d, .slice x.C x.t.body.length x.e]] V fun e w' => e = .returned (.bool (!patB x.t)) ∧ Below V.heap.size V w') :
    Calls Tryz.prog 26 #[.slice A len c, .func (.func 46) #[] #[]] W fun e w' => e = .returned (.bool (!patL l)) ∧ Below W.heap.size W w' := by
  have HIX : Hid (Calls Tryz.prog 45 #[.slice A len c, .func (.func 46) #[] #[]] W fun e w' => ∃ z : Int, e = .returned (.int .i64 z) ∧ decide (0 ≤ z) = (!patL l) ∧ Below W.heap.size W w') := by
    have HLEN := Lib.hid hlen
    have hlc : len ≤ 9223372036854775807 := by have := hR.1; have := hR.2.1; omega
    have HF := Lib.hid hf
    have HR := Lib.hid hR
    clear hlen hf hR
    go_enter Tryz.func45, Tryz.ntmps45
    go_upto_region 2 with (fail)
    go_loopw [8] (fun i wr => ∃ k : Nat, k ≤ len ∧ i = .int .i64 k ∧ patL (l.take k) = true ∧ Below W.heap.size W wr) (fun i _ => len - (intOf i).toNat)
    case atStart => exact ⟨0, Nat.zero_le _, rfl, by simp [patL], Below.refl _ _⟩
    case round =>
      obtain ⟨k, hk, rfl, hall, hb⟩ := hrel
      have HALL := Lib.hid hall
      clear hall
      by_cases hlt : k < len
      · have hkl : k < l.length := by rw [HLEN.out]; exact hlt
        obtain ⟨b, o, x, rfl, hx, hok, e0, e1, e2, e3, e4, e5, e6⟩ := rdn_item (HR.out.below hb) hkl
        have HC := Lib.hid (HF.out k hkl x wr hx hb hok)
        have HTK := Lib.hid (patL_take l k hkl)
        have HTL := Lib.hid (patL_no l k hkl)
        rw [← hx] at HTK HTL
        have q1 : (0 : Int) ≤ (k : Int) := by omega
        have q2 : (k : Int) < (len : Int) := by omega
        have hd2 : decide (k < len) = true := by simp; omega
        clear hx hok hkl
        cases hti : patB x.t with
        | true =>
          rw [hti] at HC HTK
          go_wp2_with (go_at_call 46; refine HC.out.mono ?_; rintro e w5 ⟨rfl, hb5⟩)
          go_roundw
          case rel => exact ⟨k + 1, by omega, by go_num, by rw [HTK.out, HALL.out]; rfl, below_step hb hb5⟩
          case measure => simp [intOf]; omega
        | false =>
          rw [hti] at HC
          go_wp2_with (go_at_call 46; refine HC.out.mono ?_; rintro e w5 ⟨rfl, hb5⟩)
          go_ret
          exact ⟨k, rfl, by rw [HTL.out hti]; simp, below_step hb hb5⟩
      · obtain rfl : k = len := by omega
        have hd2 : decide (k < k) = false := by simp
        go_wp2_with (fail)
        go_ret
        have := HALL.out
        rw [List.take_of_length_le (by rw [HLEN.out]; exact Nat.le_refl _)] at this
        exact ⟨-1, rfl, by rw [this]; rfl, hb⟩
  clear hlen hf
  go_enter Tryz.func26, Tryz.ntmps26
  go_wp2_with (go_at_call 45; refine HIX.out.mono ?_; rintro e w5 ⟨z, rfl, hz, hb5⟩)
  go_ret
  exact ⟨rfl, hb5⟩

set_option maxHeartbeats 2000000 in
theorem idx_all (l : List ND) (A : Option Addr) (len c : Nat) (W : World) (hlen : l.length = len) (hR : RdN NoB W A c l)
    (hf : ∀ (k : Nat) (h : k < l.length) (x : EN) (V : World), x.t = l[k] → Below W.heap.size W V → x.Ok NoB V → Calls Tryz.prog 27 #[.agg #[.int .i64 x.t.kind, .int .i64 x.t.int, .string ⟨x.t.name.toArray⟩, .int .i64 x.t.at_, .slice x.A x.t.kids.length x.c, .slice x.B x.t.clauses.length x.d, .slice x.C x.t.body.length x.e]] V fun e w' => e = .returned (.bool (!patB x.t)) ∧ Below V.heap.size V w') :
    Calls Tryz.prog 26 #[.slice A len c, .func (.func 27) #[] #[]] W fun e w' => e = .returned (.bool (!patL l)) ∧ Below W.heap.size W w' := by
  have HIX : Hid (Calls Tryz.prog 45 #[.slice A len c, .func (.func 27) #[] #[]] W fun e w' => ∃ z : Int, e = .returned (.int .i64 z) ∧ decide (0 ≤ z) = (!patL l) ∧ Below W.heap.size W w') := by
    have HLEN := Lib.hid hlen
    have hlc : len ≤ 9223372036854775807 := by have := hR.1; have := hR.2.1; omega
    have HF := Lib.hid hf
    have HR := Lib.hid hR
    clear hlen hf hR
    go_enter Tryz.func45, Tryz.ntmps45
    go_upto_region 2 with (fail)
    go_loopw [8] (fun i wr => ∃ k : Nat, k ≤ len ∧ i = .int .i64 k ∧ patL (l.take k) = true ∧ Below W.heap.size W wr) (fun i _ => len - (intOf i).toNat)
    case atStart => exact ⟨0, Nat.zero_le _, rfl, by simp [patL], Below.refl _ _⟩
    case round =>
      obtain ⟨k, hk, rfl, hall, hb⟩ := hrel
      have HALL := Lib.hid hall
      clear hall
      by_cases hlt : k < len
      · have hkl : k < l.length := by rw [HLEN.out]; exact hlt
        obtain ⟨b, o, x, rfl, hx, hok, e0, e1, e2, e3, e4, e5, e6⟩ := rdn_item (HR.out.below hb) hkl
        have HC := Lib.hid (HF.out k hkl x wr hx hb hok)
        have HTK := Lib.hid (patL_take l k hkl)
        have HTL := Lib.hid (patL_no l k hkl)
        rw [← hx] at HTK HTL
        have q1 : (0 : Int) ≤ (k : Int) := by omega
        have q2 : (k : Int) < (len : Int) := by omega
        have hd2 : decide (k < len) = true := by simp; omega
        clear hx hok hkl
        cases hti : patB x.t with
        | true =>
          rw [hti] at HC HTK
          go_wp2_with (go_at_call 27; refine HC.out.mono ?_; rintro e w5 ⟨rfl, hb5⟩)
          go_roundw
          case rel => exact ⟨k + 1, by omega, by go_num, by rw [HTK.out, HALL.out]; rfl, below_step hb hb5⟩
          case measure => simp [intOf]; omega
        | false =>
          rw [hti] at HC
          go_wp2_with (go_at_call 27; refine HC.out.mono ?_; rintro e w5 ⟨rfl, hb5⟩)
          go_ret
          exact ⟨k, rfl, by rw [HTL.out hti]; simp, below_step hb hb5⟩
      · obtain rfl : k = len := by omega
        have hd2 : decide (k < k) = false := by simp
        go_wp2_with (fail)
        go_ret
        have := HALL.out
        rw [List.take_of_length_le (by rw [HLEN.out]; exact Nat.le_refl _)] at this
        exact ⟨-1, rfl, by rw [this]; rfl, hb⟩
  clear hlen hf
  go_enter Tryz.func26, Tryz.ntmps26
  go_wp2_with (go_at_call 45; refine HIX.out.mono ?_; rintro e w5 ⟨z, rfl, hz, hb5⟩)
  go_ret
  exact ⟨rfl, hb5⟩

theorem clo_pat (x : EN) (W : World) (hp : ∀ V, Below W.heap.size W V → Calls Tryz.prog 28 #[.agg #[.int .i64 x.t.kind, .int .i64 x.t.int, .string ⟨x.t.name.toArray⟩, .int .i64 x.t.at_, .slice x.A x.t.kids.length x.c, .slice x.B x.t.clauses.length x.d, .slice x.C x.t.body.length x.e]] V fun e w' => e = .returned (.bool (patB x.t)) ∧ Below V.heap.size V w') :
    Calls Tryz.prog 46 #[.agg #[.int .i64 x.t.kind, .int .i64 x.t.int, .string ⟨x.t.name.toArray⟩, .int .i64 x.t.at_, .slice x.A x.t.kids.length x.c, .slice x.B x.t.clauses.length x.d, .slice x.C x.t.body.length x.e]] W fun e w' => e = .returned (.bool (!patB x.t)) ∧ Below W.heap.size W w' := by
  have HC := Lib.hid hp
  clear hp
  obtain ⟨z, hz⟩ : ∃ z, patB x.t = z := ⟨_, rfl⟩
  rw [hz] at HC ⊢
  clear hz
  go_enter Tryz.func46, Tryz.ntmps46
  go_wp2_with (go_at_call 28; refine (HC.out _ (below_alloc _ _)).mono ?_; rintro e w5 ⟨rfl, hb5⟩)
  go_ret
  exact ⟨rfl, below_step (below_alloc _ _) hb5⟩

theorem clo_all (x : EN) (W : World) (hp : ∀ V, Below W.heap.size W V → Calls Tryz.prog 28 #[.agg #[.int .i64 x.t.kind, .int .i64 x.t.int, .string ⟨x.t.name.toArray⟩, .int .i64 x.t.at_, .slice x.A x.t.kids.length x.c, .slice x.B x.t.clauses.length x.d, .slice x.C x.t.body.length x.e]] V fun e w' => e = .returned (.bool (patB x.t)) ∧ Below V.heap.size V w') :
    Calls Tryz.prog 27 #[.agg #[.int .i64 x.t.kind, .int .i64 x.t.int, .string ⟨x.t.name.toArray⟩, .int .i64 x.t.at_, .slice x.A x.t.kids.length x.c, .slice x.B x.t.clauses.length x.d, .slice x.C x.t.body.length x.e]] W fun e w' => e = .returned (.bool (!patB x.t)) ∧ Below W.heap.size W w' := by
  have HC := Lib.hid hp
  clear hp
  obtain ⟨z, hz⟩ : ∃ z, patB x.t = z := ⟨_, rfl⟩
  rw [hz] at HC ⊢
  clear hz
  go_enter Tryz.func27, Tryz.ntmps27
  go_wp2_with (go_at_call 28; refine (HC.out _ (below_alloc _ _)).mono ?_; rintro e w5 ⟨rfl, hb5⟩)
  go_ret
  exact ⟨rfl, below_step (below_alloc _ _) hb5⟩

theorem mpat_k1 (n : Int) (s : List UInt8) (a : Int) (l : List ND) (A : Option Addr) (c : Nat) (v5 v6 : Value) (W : World) :
    Calls Tryz.prog 28 #[.agg #[.int .i64 1, .int .i64 n, .string ⟨s.toArray⟩, .int .i64 a, .slice A l.length c, v5, v6]] W fun e w' => e = .returned (.bool true) ∧ Below W.heap.size W w' := by
  go_enter Tryz.func28, Tryz.ntmps28
  go_wp2
  go_ret
  exact ⟨rfl, below_alloc _ _⟩

theorem mpat_k2 (n : Int) (s : List UInt8) (a : Int) (l : List ND) (A : Option Addr) (c : Nat) (v5 v6 : Value) (W : World) :
    Calls Tryz.prog 28 #[.agg #[.int .i64 2, .int .i64 n, .string ⟨s.toArray⟩, .int .i64 a, .slice A l.length c, v5, v6]] W fun e w' => e = .returned (.bool true) ∧ Below W.heap.size W w' := by
  go_enter Tryz.func28, Tryz.ntmps28
  go_wp2
  go_ret
  exact ⟨rfl, below_alloc _ _⟩

theorem mpat_k3 (n : Int) (s : List UInt8) (a : Int) (l : List ND) (A : Option Addr) (c : Nat) (v5 v6 : Value) (W : World) :
    Calls Tryz.prog 28 #[.agg #[.int .i64 3, .int .i64 n, .string ⟨s.toArray⟩, .int .i64 a, .slice A l.length c, v5, v6]] W fun e w' => e = .returned (.bool true) ∧ Below W.heap.size W w' := by
  go_enter Tryz.func28, Tryz.ntmps28
  go_wp2
  go_ret
  exact ⟨rfl, below_alloc _ _⟩

theorem mpat_k5 (n : Int) (s : List UInt8) (a : Int) (l : List ND) (A : Option Addr) (c : Nat) (v5 v6 : Value) (W : World) :
    Calls Tryz.prog 28 #[.agg #[.int .i64 5, .int .i64 n, .string ⟨s.toArray⟩, .int .i64 a, .slice A l.length c, v5, v6]] W fun e w' => e = .returned (.bool true) ∧ Below W.heap.size W w' := by
  go_enter Tryz.func28, Tryz.ntmps28
  go_wp2
  go_ret
  exact ⟨rfl, below_alloc _ _⟩

theorem mpat_k4 (n : Int) (s : List UInt8) (a : Int) (l : List ND) (A : Option Addr) (c : Nat) (v5 v6 : Value) (W : World) (b : Bool)
    (hct : ∀ V, Below W.heap.size W V → Calls Tryz.prog 26 #[.slice A l.length c, .func (.func 46) #[] #[]] V fun e w' => e = .returned (.bool (!b)) ∧ Below V.heap.size V w') :
    Calls Tryz.prog 28 #[.agg #[.int .i64 4, .int .i64 n, .string ⟨s.toArray⟩, .int .i64 a, .slice A l.length c, v5, v6]] W fun e w' => e = .returned (.bool b) ∧ Below W.heap.size W w' := by
  have HC := Lib.hid hct
  clear hct
  generalize l.length = len at *
  go_enter Tryz.func28, Tryz.ntmps28
  go_wp2_with (go_at_call 26; refine (HC.out _ (below_alloc _ _)).mono ?_; rintro e w5 ⟨rfl, hb5⟩)
  go_ret
  exact ⟨by simp, below_step (below_alloc _ _) hb5⟩

set_option maxRecDepth 100000 in
theorem mpat_other (k n : Int) (s : List UInt8) (a : Int) (l : List ND) (A : Option Addr) (c : Nat) (v5 v6 : Value) (W : World) (h1 : k ≠ 1) (h2 : k ≠ 2) (h3 : k ≠ 3) (h5 : k ≠ 5) (h10 : k ≠ 10) (h4 : k ≠ 4) (h6 : k ≠ 6) :
    Calls Tryz.prog 28 #[.agg #[.int .i64 k, .int .i64 n, .string ⟨s.toArray⟩, .int .i64 a, .slice A l.length c, v5, v6]] W fun e w' => e = .returned (.bool false) ∧ Below W.heap.size W w' := by
  have d1 : (k == 1) = false := by simpa using h1
  have d2 : (k == 2) = false := by simpa using h2
  have d3 : (k == 3) = false := by simpa using h3
  have d4 : (k == 4) = false := by simpa using h4
  have d5 : (k == 5) = false := by simpa using h5
  have d6 : (k == 6) = false := by simpa using h6
  have d7 : (k == 10) = false := by simpa using h10
  clear h1 h2 h3 h4 h5 h6 h10
  go_enter Tryz.func28, Tryz.ntmps28
  go_wp2
  go_ret
  exact ⟨rfl, below_alloc _ _⟩

set_option maxRecDepth 100000 in
theorem mpat_k10a (n : Int) (s : List UInt8) (a : Int) (l : List ND) (A : Option Addr) (c : Nat) (v5 v6 : Value) (W : World) (hs : (s == [45]) = false) :
    Calls Tryz.prog 28 #[.agg #[.int .i64 10, .int .i64 n, .string ⟨s.toArray⟩, .int .i64 a, .slice A l.length c, v5, v6]] W fun e w' => e = .returned (.bool false) ∧ Below W.heap.size W w' := by
  generalize l.length = len at *
  go_enter Tryz.func28, Tryz.ntmps28
  go_wp2
  go_ret
  exact ⟨rfl, below_alloc _ _⟩

set_option maxRecDepth 100000 in
theorem mpat_k10b (n : Int) (s : List UInt8) (a : Int) (l : List ND) (A : Option Addr) (c : Nat) (v5 v6 : Value) (W : World) (hl : (l.length == 1) = false) :
    Calls Tryz.prog 28 #[.agg #[.int .i64 10, .int .i64 n, .string ⟨s.toArray⟩, .int .i64 a, .slice A l.length c, v5, v6]] W fun e w' => e = .returned (.bool false) ∧ Below W.heap.size W w' := by
  have d1 : ((l.length : Int) == 1) = false := by
    have h9 : ¬ l.length = 1 := by simpa using hl
    exact beq_eq_false_iff_ne.2 (by omega)
  cases hs : (s == [45]) with
  | false => exact mpat_k10a n s a l A c v5 v6 W hs
  | true =>
  generalize l.length = len at *
  go_enter Tryz.func28, Tryz.ntmps28
  go_wp2
  go_ret
  exact ⟨rfl, below_alloc _ _⟩

set_option maxRecDepth 100000 in
theorem mpat_k10c (n : Int) (s : List UInt8) (a : Int) (l : List ND) (A : Option Addr) (c : Nat) (v5 v6 : Value) (W : World) (hs : (s == [45]) = true) (hl : l.length = 1) (hR : RdN NoB W A c l) :
    Calls Tryz.prog 28 #[.agg #[.int .i64 10, .int .i64 n, .string ⟨s.toArray⟩, .int .i64 a, .slice A l.length c, v5, v6]] W fun e w' => e = .returned (.bool (kid1 l)) ∧ Below W.heap.size W w' := by
  obtain ⟨b, o, x, rfl, hx, hok, e0, e1, e2, e3, e4, e5, e6⟩ := rdn_item hR (k := 0) (by omega)
  have hk : kid1 l = (x.t.kind == 1) := by
    rw [hx]
    match l, hl with
    | [y], _ => rfl
  have hc : 1 ≤ c := by have := hR.1; omega
  rw [hk, hl]
  simp only [Nat.zero_mul, Nat.add_zero] at e0
  have hlt := World.block_lt_of_cell? W _ e0
  generalize x.t.kind = k at *
  clear hx hok hk e1 e2 e3 e4 e5 e6 hR hl
  go_enter Tryz.func28, Tryz.ntmps28
  go_wp2
  go_ret
  exact ⟨rfl, below_alloc _ _⟩

set_option maxRecDepth 100000 in
theorem mpat_k6a (n : Int) (s : List UInt8) (a : Int) (l : List ND) (A : Option Addr) (c : Nat) (v5 v6 : Value) (W : World) (hl : (l.length == 2) = false) :
    Calls Tryz.prog 28 #[.agg #[.int .i64 6, .int .i64 n, .string ⟨s.toArray⟩, .int .i64 a, .slice A l.length c, v5, v6]] W fun e w' => e = .returned (.bool false) ∧ Below W.heap.size W w' := by
  have d1 : ((l.length : Int) == 2) = false := by
    have h9 : ¬ l.length = 2 := by simpa using hl
    exact beq_eq_false_iff_ne.2 (by omega)
  generalize l.length = len at *
  go_enter Tryz.func28, Tryz.ntmps28
  go_wp2
  go_ret
  exact ⟨rfl, below_alloc _ _⟩

set_option maxRecDepth 100000 in
theorem mpat_k6b (n : Int) (s : List UInt8) (a : Int) (l : List ND) (A : Option Addr) (c : Nat) (v5 v6 : Value) (W : World) (hl : l.length = 2) (hR : RdN NoB W A c l) (hp : ∀ (k : Nat) (h : k < l.length) (x : EN) (V : World), x.t = l[k] → Below W.heap.size W V → x.Ok NoB V → Calls Tryz.prog 28 #[.agg #[.int .i64 x.t.kind, .int .i64 x.t.int, .string ⟨x.t.name.toArray⟩, .int .i64 x.t.at_, .slice x.A x.t.kids.length x.c, .slice x.B x.t.clauses.length x.d, .slice x.C x.t.body.length x.e]] V fun e w' => e = .returned (.bool (patB x.t)) ∧ Below V.heap.size V w')
    (h0 : patB l[0] = false) :
    Calls Tryz.prog 28 #[.agg #[.int .i64 6, .int .i64 n, .string ⟨s.toArray⟩, .int .i64 a, .slice A l.length c, v5, v6]] W fun e w' => e = .returned (.bool false) ∧ Below W.heap.size W w' := by
  obtain ⟨b, o, x, rfl, hx, hok, e0, e1, e2, e3, e4, e5, e6⟩ := rdn_item hR (k := 0) (by omega)
  obtain ⟨b', o', y, hbo, hy, hok', f0, f1, f2, f3, f4, f5, f6⟩ := rdn_item hR (k := 1) (by omega)
  simp only [Option.some.injEq, Addr.mk.injEq, and_true] at hbo
  obtain ⟨rfl, rfl⟩ := hbo
  simp only [Nat.zero_mul, Nat.add_zero] at e0 e1 e2 e3 e4 e5 e6
  simp only [Nat.one_mul, Nat.add_assoc, Nat.reduceAdd] at f0 f1 f2 f3 f4 f5 f6
  have hc : 2 ≤ c := by have := hR.1; omega
  have hlt := World.block_lt_of_cell? W _ e0
  have HX := Lib.hid (fun V hV => hp 0 (by omega) x V hx hV (hok.below hV))
  have HY := Lib.hid (fun V hV => hp 1 (by omega) y V hy hV (hok'.below hV))
  rw [hx, h0] at HX
  rw [hl]
  clear hp hok hok' hR h0
  rw [← hx] at HX
  clear HY
  clear hx hy hl
  go_enter Tryz.func28, Tryz.ntmps28
  go_wp2_with (go_at_call 28; refine (HX.out _ (below_alloc _ _)).mono ?_; rintro e w5 ⟨rfl, hb5⟩)
  go_ret
  exact ⟨rfl, below_step (below_alloc _ _) hb5⟩

set_option maxRecDepth 100000 in
theorem mpat_k6c (n : Int) (s : List UInt8) (a : Int) (l : List ND) (A : Option Addr) (c : Nat) (v5 v6 : Value) (W : World) (hl : l.length = 2) (hR : RdN NoB W A c l) (hp : ∀ (k : Nat) (h : k < l.length) (x : EN) (V : World), x.t = l[k] → Below W.heap.size W V → x.Ok NoB V → Calls Tryz.prog 28 #[.agg #[.int .i64 x.t.kind, .int .i64 x.t.int, .string ⟨x.t.name.toArray⟩, .int .i64 x.t.at_, .slice x.A x.t.kids.length x.c, .slice x.B x.t.clauses.length x.d, .slice x.C x.t.body.length x.e]] V fun e w' => e = .returned (.bool (patB x.t)) ∧ Below V.heap.size V w')
    (h0 : patB l[0] = true) :
    Calls Tryz.prog 28 #[.agg #[.int .i64 6, .int .i64 n, .string ⟨s.toArray⟩, .int .i64 a, .slice A l.length c, v5, v6]] W fun e w' => e = .returned (.bool (patB l[1])) ∧ Below W.heap.size W w' := by
  obtain ⟨b, o, x, rfl, hx, hok, e0, e1, e2, e3, e4, e5, e6⟩ := rdn_item hR (k := 0) (by omega)
  obtain ⟨b', o', y, hbo, hy, hok', f0, f1, f2, f3, f4, f5, f6⟩ := rdn_item hR (k := 1) (by omega)
  simp only [Option.some.injEq, Addr.mk.injEq, and_true] at hbo
  obtain ⟨rfl, rfl⟩ := hbo
  simp only [Nat.zero_mul, Nat.add_zero] at e0 e1 e2 e3 e4 e5 e6
  simp only [Nat.one_mul, Nat.add_assoc, Nat.reduceAdd] at f0 f1 f2 f3 f4 f5 f6
  have hc : 2 ≤ c := by have := hR.1; omega
  have hlt := World.block_lt_of_cell? W _ e0
  have HX := Lib.hid (fun V hV => hp 0 (by omega) x V hx hV (hok.below hV))
  have HY := Lib.hid (fun V hV => hp 1 (by omega) y V hy hV (hok'.below hV))
  rw [hx, h0] at HX
  obtain ⟨bb, hbb⟩ : ∃ bb, patB l[1] = bb := ⟨_, rfl⟩
  rw [hy, hbb] at HY
  rw [hbb]
  clear hbb
  rw [hl]
  clear hp hok hok' hR h0
  rw [← hx] at HX
  rw [← hy] at HY
  clear hx hy hl
  go_enter Tryz.func28, Tryz.ntmps28
  go_wp2_with (first
    | (go_at_call 28; with_reducible refine (HX.out _ (below_alloc _ _)).mono ?_; rintro e w5 ⟨rfl, hb5⟩; have hbk := (Blk.new W _ _).keep hb5; have g4 := hbk.cell 4; have hbb := below_step (below_alloc W _) hb5; have p0 := (hbb.cell (World.block_lt_of_cell? W _ f0)).trans f0; have p1 := (hbb.cell (World.block_lt_of_cell? W _ f1)).trans f1; have p2 := (hbb.cell (World.block_lt_of_cell? W _ f2)).trans f2; have p3 := (hbb.cell (World.block_lt_of_cell? W _ f3)).trans f3; have p4 := (hbb.cell (World.block_lt_of_cell? W _ f4)).trans f4; have p5 := (hbb.cell (World.block_lt_of_cell? W _ f5)).trans f5; have p6 := (hbb.cell (World.block_lt_of_cell? W _ f6)).trans f6)
    | (go_at_call 28; with_reducible refine (HY.out _ (below_step (below_alloc _ _) hb5)).mono ?_; rintro e w6 ⟨rfl, hb6⟩))
  go_ret
  exact ⟨rfl, below_step (below_step (below_alloc _ _) hb5) hb6⟩

/-- pattern: at every node. -/
theorem mpat_any (N : Nat) : ∀ (x : EN) (W : World), x.t.parts ≤ N → x.Ok NoB W →
    Calls Tryz.prog 28 #[.agg #[.int .i64 x.t.kind, .int .i64 x.t.int, .string ⟨x.t.name.toArray⟩, .int .i64 x.t.at_, .slice x.A x.t.kids.length x.c, .slice x.B x.t.clauses.length x.d, .slice x.C x.t.body.length x.e]] W fun e w' => e = .returned (.bool (patB x.t)) ∧ Below W.heap.size W w' := by
  induction N with
  | zero => intro x W hx; have := x.t.parts_pos; omega
  | succ N ih =>
    intro x W hx hok
    have hR := hok.kids
    have hpe := x.t.parts_eq
    have HP : ∀ (k : Nat) (h : k < x.t.kids.length) (y : EN) (V : World), y.t = x.t.kids[k] → Below W.heap.size W V → y.Ok NoB V → Calls Tryz.prog 28 #[.agg #[.int .i64 y.t.kind, .int .i64 y.t.int, .string ⟨y.t.name.toArray⟩, .int .i64 y.t.at_, .slice y.A y.t.kids.length y.c, .slice y.B y.t.clauses.length y.d, .slice y.C y.t.body.length y.e]] V fun e w' => e = .returned (.bool (patB y.t)) ∧ Below V.heap.size V w' := fun k h y V hy _ hyo => ih y V (by rw [hy]; have := ndparts_item x.t.kids k h; omega) hyo
    rw [patB_eq]
    obtain ⟨kd, hkd⟩ : ∃ kd, x.t.kind = kd := ⟨_, rfl⟩
    rw [hkd]
    by_cases h1 : kd = 1
    · subst h1; exact mpat_k1 _ _ _ _ _ _ _ _ W
    rw [if_neg h1]
    by_cases h2 : kd = 2
    · subst h2; exact mpat_k2 _ _ _ _ _ _ _ _ W
    rw [if_neg h2]
    by_cases h3 : kd = 3
    · subst h3; exact mpat_k3 _ _ _ _ _ _ _ _ W
    rw [if_neg h3]
    by_cases h5 : kd = 5
    · subst h5; exact mpat_k5 _ _ _ _ _ _ _ _ W
    rw [if_neg h5]
    by_cases h10 : kd = 10
    · subst h10
      rw [if_pos rfl]
      cases hs : (x.t.name == [45]) with
      | false => exact mpat_k10a _ _ _ _ _ _ _ _ W hs
      | true =>
        cases hl : (x.t.kids.length == 1) with
        | false => exact mpat_k10b _ _ _ _ _ _ _ _ W hl
        | true => exact mpat_k10c _ _ _ _ _ _ _ _ W hs (by simpa using hl) hR
    rw [if_neg h10]
    by_cases h4 : kd = 4
    · subst h4
      rw [if_pos rfl]
      exact mpat_k4 _ _ _ _ _ _ _ _ W _ fun V hV => idx_pat x.t.kids x.A _ x.c V rfl (hR.below hV) fun k h y V2 hy hV2 hyo => clo_pat y V2 fun V3 hV3 => HP k h y V3 hy (below_step (below_step hV hV2) hV3) (hyo.below hV3)
    rw [if_neg h4]
    by_cases h6 : kd = 6
    · subst h6
      rw [if_pos rfl]
      cases hl : (x.t.kids.length == 2) with
      | false => exact mpat_k6a _ _ _ _ _ _ _ _ W hl
      | true =>
        have hl2 : x.t.kids.length = 2 := by simpa using hl
        rw [patL_two hl2, Bool.true_and]
        cases h0 : patB (x.t.kids[0]'(by omega)) with
        | false => exact mpat_k6b _ _ _ _ _ _ _ _ W hl2 hR HP h0
        | true => exact mpat_k6c _ _ _ _ _ _ _ _ W hl2 hR HP h0
    rw [if_neg h6]
    exact mpat_other _ _ _ _ _ _ _ _ _ W h1 h2 h3 h5 h10 h4 h6
end Go.Proofs.YtmpknhdfglbocaaGreat
