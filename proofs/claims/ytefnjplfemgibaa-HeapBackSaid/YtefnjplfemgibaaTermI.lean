/- The walks of the term package's is, Check, Size. -/
import Derived.Test.YtefnjplfemgibaaTermC
namespace Go.Proofs.Ytefnjplfemgibaa
open Go.RowKit
set_option linter.unusedVariables false

/-- Is it a term, but for its items? -/
def headB (k n : Int) (s : List UInt8) (len : Nat) : Bool :=
  if k = 1 then decide (-576460752303423488 ≤ n) && decide (n ≤ 576460752303423487) && decide (len = 0) && decide (s = [])
  else if k = 2 then decide (s ≠ []) && decide (s.length ≤ 255) && decide (len = 0) && decide (n = 0)
  else if k = 3 ∨ k = 5 then decide (0 ≤ n) && decide (n ≤ 576460752303423487) && decide (len = 0) && decide (s = [])
  else if k = 4 then decide (0 ≤ n) && decide (n ≤ 576460752303423487) && decide (s = [])
  else if k = 6 then decide (n = 0) && decide (s = [])
  else if k = 7 then decide (len = 0) && decide (n = 0) && decide (s = [])
  else if k = 8 then decide (len = 2) && decide (n = 0) && decide (s = [])
  else false
mutual
def TV.isT : TV → Bool
  | .mk k n s l => headB k n s l.length && TV.isL l
def TV.isL : List TV → Bool
  | [] => true
  | t :: r => t.isT && TV.isL r
end
theorem isL_append (l m : List TV) : TV.isL (l ++ m) = (TV.isL l && TV.isL m) := by
  induction l with
  | nil => simp [TV.isL]
  | cons t r ih => simp [TV.isL, ih, Bool.and_assoc]
theorem isL_take (l : List TV) (k : Nat) (h : k < l.length) : TV.isL (l.take (k + 1)) = (TV.isL (l.take k) && l[k].isT) := by
  rw [List.take_succ_eq_append_getElem h, isL_append]
  simp [TV.isL]
theorem isL_no (l : List TV) (k : Nat) (h : k < l.length) (hf : l[k].isT = false) : TV.isL l = false := by
  rw [← List.take_append_drop (k + 1) l, isL_append, isL_take l k h, hf]
  simp

set_option maxHeartbeats 2000000 in
theorem idx_is (l : List TV) (A : Option Addr) (len c : Nat) (w0 W : World) (hlen : l.length = len) (hW : Below w0.heap.size w0 W) (hR : RdM w0 A c l)
    (hf : ∀ (k : Nat) (h : k < l.length) (A' : Option Addr) (c' : Nat) (W' : World), Below w0.heap.size w0 W' → RdM w0 A' c' l[k].items → Calls Try.prog 89 #[.agg #[.int .i64 l[k].kind, .int .i64 l[k].int, .string ⟨l[k].name.toArray⟩, .slice A' l[k].items.length c']] W' fun e w' => e = .returned (.bool (!l[k].isT)) ∧ Below W'.heap.size W' w') :
    Calls Try.prog 58 #[.slice A len c, .func (.func 89) #[] #[]] W fun e w' => e = .returned (.bool (!TV.isL l)) ∧ Below W.heap.size W w' := by
  have HIX : Hid (Calls Try.prog 88 #[.slice A len c, .func (.func 89) #[] #[]] W fun e w' => ∃ z : Int, e = .returned (.int .i64 z) ∧ decide (0 ≤ z) = (!TV.isL l) ∧ Below W.heap.size W w') := by
    have HLEN := Lib.hid hlen
    have hlc : len ≤ 9223372036854775807 := by have := hR.1; have := hR.2.1; omega
    have HF := Lib.hid hf
    clear hlen hf
    go_enter Try.func88, Try.ntmps88
    go_upto_region 2 with (fail)
    go_loopw [8] (fun i wr => ∃ k : Nat, k ≤ len ∧ i = .int .i64 k ∧ TV.isL (l.take k) = true ∧ Below W.heap.size W wr) (fun i _ => len - (intOf i).toNat)
    case atStart => exact ⟨0, Nat.zero_le _, rfl, by simp [TV.isL], Below.refl _ _⟩
    case round =>
      obtain ⟨k, hk, rfl, hall, hb⟩ := hrel
      have HALL := Lib.hid hall
      clear hall
      by_cases hlt : k < len
      · have hkl : k < l.length := by rw [HLEN.out]; exact hlt
        obtain ⟨b, o, A', c', rfl, h0, h1, h2, h3, hR'⟩ := hR.item hkl
        have hbr := below_step hW hb
        have e0 := (hbr.cell (World.block_lt_of_cell? w0 _ h0)).trans h0
        have e1 := (hbr.cell (World.block_lt_of_cell? w0 _ h1)).trans h1
        have e2 := (hbr.cell (World.block_lt_of_cell? w0 _ h2)).trans h2
        have e3 := (hbr.cell (World.block_lt_of_cell? w0 _ h3)).trans h3
        have HC := Lib.hid (HF.out k hkl A' c' wr hbr hR')
        have HTK := Lib.hid (isL_take l k hkl)
        have HTL := Lib.hid (isL_no l k hkl)
        generalize l[k] = ti at *
        generalize ti.items.length = tl at *
        have q1 : (0 : Int) ≤ (k : Int) := by omega
        have q2 : (k : Int) < (len : Int) := by omega
        have hd2 : decide (k < len) = true := by simp; omega
        clear h0 h1 h2 h3 hkl hR'
        cases hti : ti.isT with
        | true =>
          rw [hti] at HC HTK
          go_wp2_with (go_at_call 89; refine HC.out.mono ?_; rintro e w5 ⟨rfl, hb5⟩)
          go_roundw
          case rel => exact ⟨k + 1, by omega, by go_num, by rw [HTK.out, HALL.out]; rfl, below_step hb hb5⟩
          case measure => simp [intOf]; omega
        | false =>
          rw [hti] at HC
          go_wp2_with (go_at_call 89; refine HC.out.mono ?_; rintro e w5 ⟨rfl, hb5⟩)
          go_ret
          exact ⟨k, rfl, by rw [HTL.out hti]; simp, below_step hb hb5⟩
      · obtain rfl : k = len := by omega
        have hd2 : decide (k < k) = false := by simp
        go_wp2_with (fail)
        go_ret
        have := HALL.out
        rw [List.take_of_length_le (by rw [HLEN.out]; exact Nat.le_refl _)] at this
        exact ⟨-1, rfl, by rw [this]; rfl, hb⟩
  clear hlen hf
  go_enter Try.func58, Try.ntmps58
  go_wp2_with (go_at_call 88; refine HIX.out.mono ?_; rintro e w5 ⟨z, rfl, hz, hb5⟩)
  go_ret
  exact ⟨rfl, hb5⟩

set_option maxHeartbeats 2000000 in
theorem idx_check (l : List TV) (A : Option Addr) (len c : Nat) (w0 W : World) (hlen : l.length = len) (hW : Below w0.heap.size w0 W) (hR : RdM w0 A c l)
    (hf : ∀ (k : Nat) (h : k < l.length) (A' : Option Addr) (c' : Nat) (W' : World), Below w0.heap.size w0 W' → RdM w0 A' c' l[k].items → Calls Try.prog 59 #[.agg #[.int .i64 l[k].kind, .int .i64 l[k].int, .string ⟨l[k].name.toArray⟩, .slice A' l[k].items.length c']] W' fun e w' => e = .returned (.bool (!l[k].isT)) ∧ Below W'.heap.size W' w') :
    Calls Try.prog 58 #[.slice A len c, .func (.func 59) #[] #[]] W fun e w' => e = .returned (.bool (!TV.isL l)) ∧ Below W.heap.size W w' := by
  have HIX : Hid (Calls Try.prog 88 #[.slice A len c, .func (.func 59) #[] #[]] W fun e w' => ∃ z : Int, e = .returned (.int .i64 z) ∧ decide (0 ≤ z) = (!TV.isL l) ∧ Below W.heap.size W w') := by
    have HLEN := Lib.hid hlen
    have hlc : len ≤ 9223372036854775807 := by have := hR.1; have := hR.2.1; omega
    have HF := Lib.hid hf
    clear hlen hf
    go_enter Try.func88, Try.ntmps88
    go_upto_region 2 with (fail)
    go_loopw [8] (fun i wr => ∃ k : Nat, k ≤ len ∧ i = .int .i64 k ∧ TV.isL (l.take k) = true ∧ Below W.heap.size W wr) (fun i _ => len - (intOf i).toNat)
    case atStart => exact ⟨0, Nat.zero_le _, rfl, by simp [TV.isL], Below.refl _ _⟩
    case round =>
      obtain ⟨k, hk, rfl, hall, hb⟩ := hrel
      have HALL := Lib.hid hall
      clear hall
      by_cases hlt : k < len
      · have hkl : k < l.length := by rw [HLEN.out]; exact hlt
        obtain ⟨b, o, A', c', rfl, h0, h1, h2, h3, hR'⟩ := hR.item hkl
        have hbr := below_step hW hb
        have e0 := (hbr.cell (World.block_lt_of_cell? w0 _ h0)).trans h0
        have e1 := (hbr.cell (World.block_lt_of_cell? w0 _ h1)).trans h1
        have e2 := (hbr.cell (World.block_lt_of_cell? w0 _ h2)).trans h2
        have e3 := (hbr.cell (World.block_lt_of_cell? w0 _ h3)).trans h3
        have HC := Lib.hid (HF.out k hkl A' c' wr hbr hR')
        have HTK := Lib.hid (isL_take l k hkl)
        have HTL := Lib.hid (isL_no l k hkl)
        generalize l[k] = ti at *
        generalize ti.items.length = tl at *
        have q1 : (0 : Int) ≤ (k : Int) := by omega
        have q2 : (k : Int) < (len : Int) := by omega
        have hd2 : decide (k < len) = true := by simp; omega
        clear h0 h1 h2 h3 hkl hR'
        cases hti : ti.isT with
        | true =>
          rw [hti] at HC HTK
          go_wp2_with (go_at_call 59; refine HC.out.mono ?_; rintro e w5 ⟨rfl, hb5⟩)
          go_roundw
          case rel => exact ⟨k + 1, by omega, by go_num, by rw [HTK.out, HALL.out]; rfl, below_step hb hb5⟩
          case measure => simp [intOf]; omega
        | false =>
          rw [hti] at HC
          go_wp2_with (go_at_call 59; refine HC.out.mono ?_; rintro e w5 ⟨rfl, hb5⟩)
          go_ret
          exact ⟨k, rfl, by rw [HTL.out hti]; simp, below_step hb hb5⟩
      · obtain rfl : k = len := by omega
        have hd2 : decide (k < k) = false := by simp
        go_wp2_with (fail)
        go_ret
        have := HALL.out
        rw [List.take_of_length_le (by rw [HLEN.out]; exact Nat.le_refl _)] at this
        exact ⟨-1, rfl, by rw [this]; rfl, hb⟩
  clear hlen hf
  go_enter Try.func58, Try.ntmps58
  go_wp2_with (go_at_call 88; refine HIX.out.mono ?_; rintro e w5 ⟨z, rfl, hz, hb5⟩)
  go_ret
  exact ⟨rfl, hb5⟩
end Go.Proofs.Ytefnjplfemgibaa
