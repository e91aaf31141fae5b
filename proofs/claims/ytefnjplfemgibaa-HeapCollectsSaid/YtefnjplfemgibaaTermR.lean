/- The walks of the reference's left, Size, Fits of layer 7. -/
import Derived.Test.YtefnjplfemgibaaTermK
namespace Go.Proofs.Ytefnjplfemgibaa
open Go.RowKit
set_option linter.unusedVariables false

/-- What is left of a number behind parts. -/
def leftI (m : Int) (p : Nat) : Int := if (p : Int) ≤ m then m - p else -1
theorem leftI_succ (n : Int) (q : Nat) (hn : 0 ≤ n) : leftI n (q + 1) = leftI (n - 1) q := by
  unfold leftI
  by_cases h : (q : Int) ≤ n - 1
  · rw [if_pos (by omega), if_pos h]; omega
  · rw [if_neg (by omega), if_neg h]
theorem leftI_bd (m : Int) (p : Nat) (hm : -1 ≤ m) : -1 ≤ leftI m p ∧ leftI m p ≤ m := by
  unfold leftI
  split <;> omega
theorem leftI_add (m : Int) (p q : Nat) (h : 0 ≤ leftI m p) : leftI m (p + q) = leftI (leftI m p) q := by
  unfold leftI at h ⊢
  split at h
  · rename_i h1
    rw [if_pos h1]
    by_cases h2 : ((p + q : Nat) : Int) ≤ m
    · rw [if_pos h2, if_pos (by omega)]; omega
    · rw [if_neg h2, if_neg (by omega)]
  · omega
theorem leftI_neg (m : Int) (p q : Nat) (hpq : p ≤ q) (h : leftI m p < 0) : leftI m q = -1 := by
  unfold leftI at h ⊢
  split at h
  · omega
  · rename_i h1
    rw [if_neg (by omega)]

set_option maxRecDepth 100000 in
set_option maxHeartbeats 2000000 in
theorem left_any (N : Nat) : ∀ (t : TV) (A : Option Addr) (c : Nat) (n : Int) (w0 W : World), t.parts ≤ N → 0 ≤ n → n ≤ 1000000 → Below w0.heap.size w0 W → RdM w0 A c t.items →
    Calls Try.prog 29 #[.agg #[.int .i64 t.kind, .int .i64 t.int, .string ⟨t.name.toArray⟩, .slice A t.items.length c], .int .i64 n] W fun e w' => e = .returned (.int .i64 (leftI n t.parts)) ∧ Below W.heap.size W w' := by
  induction N with
  | zero => intro t A c n w0 W ht; have := t.parts_pos; omega
  | succ N ih =>
    intro t A c n w0 W ht hn0 hn1 hW hR
    have hpe := t.parts_eq
    have HRES := Lib.hid (show leftI n t.parts = leftI (n - 1) (TV.partsL t.items) by rw [hpe]; exact leftI_succ n _ hn0)
    obtain ⟨k0, n0, s0, l, ht0⟩ : ∃ k0 n0 s0 l, t = TV.mk k0 n0 s0 l := by cases t; exact ⟨_, _, _, _, rfl⟩
    subst ht0
    simp only [TV.kind, TV.int, TV.name, TV.items] at hR hpe HRES ⊢
    obtain ⟨len, hlen⟩ : ∃ len, l.length = len := ⟨_, rfl⟩
    have HLEN := Lib.hid hlen
    have hlc : len ≤ 9223372036854775807 := by have := hR.1; have := hR.2.1; omega
    rw [hlen]
    generalize (TV.mk k0 n0 s0 l).parts = P at *
    have HPE := Lib.hid hpe
    clear hlen hpe
    go_enter Try.func29, Try.ntmps29
    go_upto_region 3 with (fail)
    refine wp_world (fun V => Blk V W.heap.size 37 #[.int .i64 k0, .int .i64 n0, .string ⟨s0.toArray⟩, .slice A len c] ∧ Below W.heap.size W V) ⟨Blk.new _ _ _, below_alloc _ _⟩ ?_
    rintro V1 ⟨hB1, hb1⟩
    go_loopw [1, 5] (fun v i wr => ∃ k : Nat, k ≤ len ∧ i = .int .i64 k ∧ v = .int .i64 (leftI (n - 1) (TV.partsL (l.take k))) ∧ Blk wr W.heap.size 37 #[.int .i64 k0, .int .i64 n0, .string ⟨s0.toArray⟩, .slice A len c] ∧ Below W.heap.size W wr) (fun _ i _ => len - (intOf i).toNat)
    case atStart => exact ⟨0, Nat.zero_le _, rfl, by simp [TV.partsL, leftI]; omega, hB1, hb1⟩
    case round =>
      obtain ⟨k, hk, rfl, rfl, hBr, hb⟩ := hrel
      clear hB1 hb1
      have hbr := below_step hW hb
      have t3 := hBr.cell 3
      have hlb := leftI_bd (n - 1) (TV.partsL (l.take k)) (by omega)
      obtain ⟨m, hm⟩ : ∃ m, leftI (n - 1) (TV.partsL (l.take k)) = m := ⟨_, rfl⟩
      rw [hm] at hlb ⊢
      have HMM := Lib.hid hm
      by_cases hlt : k < len
      · have hkl : k < l.length := by rw [HLEN.out]; exact hlt
        have hd2 : decide (k < len) = true := by simp; omega
        by_cases hneg : m < 0
        · have hd3 : decide (0 ≤ m) = false := by simp; omega
          have HR2 := Lib.hid (leftI_neg (n - 1) _ _ (partsL_take_le l k) (by rw [hm]; exact hneg))
          have HM1 := Lib.hid (show m = -1 by omega)
          clear hm hkl
          go_wp2_with (fail)
          go_ret
          exact ⟨by rw [HRES.out, HR2.out, HM1.out]; rfl, hb⟩
        · have hd3 : decide (0 ≤ m) = true := by simp; omega
          obtain ⟨b, o, A', c', rfl, h0, h1, h2, h3, hR'⟩ := hR.item hkl
          have hpt := partsL_take l k hkl
          have hpi := parts_item l k hkl
          have e0 := (hbr.cell (World.block_lt_of_cell? w0 _ h0)).trans h0
          have e1 := (hbr.cell (World.block_lt_of_cell? w0 _ h1)).trans h1
          have e2 := (hbr.cell (World.block_lt_of_cell? w0 _ h2)).trans h2
          have e3 := (hbr.cell (World.block_lt_of_cell? w0 _ h3)).trans h3
          have HIH := Lib.hid (ih l[k] A' c' m w0 wr (by have := HPE.out; omega) (by omega) (by omega) hbr hR')
          have HNX := Lib.hid (show leftI (n - 1) (TV.partsL (l.take (k + 1))) = leftI m l[k].parts by rw [hpt, leftI_add _ _ _ (by rw [hm]; omega), hm])
          generalize l[k] = ti at *
          obtain ⟨tp, htp⟩ : ∃ tp, ti.parts = tp := ⟨_, rfl⟩
          rw [htp] at HIH HNX
          generalize ti.items.length = tl at *
          have q1 : (0 : Int) ≤ (k : Int) := by omega
          have q2 : (k : Int) < (len : Int) := by omega
          clear h0 h1 h2 h3 hpt hpi htp hkl hR' hm
          go_wp2_with (go_at_call 29; refine HIH.out.mono ?_; rintro e w5 ⟨rfl, hb5⟩)
          go_roundw
          case rel => exact ⟨k + 1, by omega, by go_num, by rw [HNX.out], hBr.keep hb5, below_step hb hb5⟩
          case measure => simp [intOf]; omega
      · obtain rfl : k = len := by omega
        have hd2 : decide (k < k) = false := by simp
        rw [List.take_of_length_le (by rw [HLEN.out]; exact Nat.le_refl _)] at hm
        have HM2 := Lib.hid hm
        clear hm
        go_wp2_with (fail)
        go_ret
        exact ⟨by rw [HRES.out, HM2.out]; rfl, hb⟩

set_option maxRecDepth 100000 in
set_option maxHeartbeats 2000000 in
theorem fits_any (l : List TV) (A : Option Addr) (len c : Nat) (n : Int) (w0 W : World) (hlen : l.length = len) (hn0 : 0 ≤ n) (hn1 : n ≤ 1000000) (hW : Below w0.heap.size w0 W) (hR : RdM w0 A c l) :
    Calls Try.prog 9 #[.slice A len c, .int .i64 n] W fun e w' => e = .returned (.bool (decide ((TV.partsL l : Int) ≤ n))) ∧ Below W.heap.size W w' := by
  have HLEN := Lib.hid hlen
  have hlc : len ≤ 9223372036854775807 := by have := hR.1; have := hR.2.1; omega
  have HRES := Lib.hid (show decide (0 ≤ leftI n (TV.partsL l)) = decide ((TV.partsL l : Int) ≤ n) by
    unfold leftI
    by_cases h : ((TV.partsL l : Nat) : Int) ≤ n
    · rw [if_pos h]; simp
    · rw [if_neg h]; simp [h])
  clear hlen
  go_enter Try.func9, Try.ntmps9
  go_upto_region 2 with (fail)
  go_loopw [1, 5] (fun v i wr => ∃ k : Nat, k ≤ len ∧ i = .int .i64 k ∧ v = .int .i64 (leftI n (TV.partsL (l.take k))) ∧ Below W.heap.size W wr) (fun _ i _ => len - (intOf i).toNat)
  case atStart => exact ⟨0, Nat.zero_le _, rfl, by simp [TV.partsL, leftI]; omega, Below.refl _ _⟩
  case round =>
    obtain ⟨k, hk, rfl, rfl, hb⟩ := hrel
    have hbr := below_step hW hb
    have hlb := leftI_bd n (TV.partsL (l.take k)) (by omega)
    obtain ⟨m, hm⟩ : ∃ m, leftI n (TV.partsL (l.take k)) = m := ⟨_, rfl⟩
    rw [hm] at hlb ⊢
    have HMM := Lib.hid hm
    by_cases hlt : k < len
    · have hkl : k < l.length := by rw [HLEN.out]; exact hlt
      have hd2 : decide (k < len) = true := by simp; omega
      by_cases hneg : m < 0
      · have hd3 : decide (0 ≤ m) = false := by simp; omega
        have HR2 := Lib.hid (leftI_neg n _ _ (partsL_take_le l k) (by rw [hm]; exact hneg))
        clear hm hkl
        go_wp2_with (fail)
        go_ret
        exact ⟨by rw [← HRES.out, HR2.out]; rfl, hb⟩
      · have hd3 : decide (0 ≤ m) = true := by simp; omega
        obtain ⟨b, o, A', c', rfl, h0, h1, h2, h3, hR'⟩ := hR.item hkl
        have hpt := partsL_take l k hkl
        have e0 := (hbr.cell (World.block_lt_of_cell? w0 _ h0)).trans h0
        have e1 := (hbr.cell (World.block_lt_of_cell? w0 _ h1)).trans h1
        have e2 := (hbr.cell (World.block_lt_of_cell? w0 _ h2)).trans h2
        have e3 := (hbr.cell (World.block_lt_of_cell? w0 _ h3)).trans h3
        have HIH := Lib.hid (left_any l[k].parts l[k] A' c' m w0 wr (Nat.le_refl _) (by omega) (by omega) hbr hR')
        have HNX := Lib.hid (show leftI n (TV.partsL (l.take (k + 1))) = leftI m l[k].parts by rw [hpt, leftI_add _ _ _ (by rw [hm]; omega), hm])
        generalize l[k] = ti at *
        obtain ⟨tp, htp⟩ : ∃ tp, ti.parts = tp := ⟨_, rfl⟩
        rw [htp] at HIH HNX
        generalize ti.items.length = tl at *
        have q1 : (0 : Int) ≤ (k : Int) := by omega
        have q2 : (k : Int) < (len : Int) := by omega
        clear h0 h1 h2 h3 hpt htp hkl hR' hm
        go_wp2_with (go_at_call 29; refine HIH.out.mono ?_; rintro e w5 ⟨rfl, hb5⟩)
        go_roundw
        case rel => exact ⟨k + 1, by omega, by go_num, by rw [HNX.out], below_step hb hb5⟩
        case measure => simp [intOf]; omega
    · obtain rfl : k = len := by omega
      have hd2 : decide (k < k) = false := by simp
      rw [List.take_of_length_le (by rw [HLEN.out]; exact Nat.le_refl _)] at hm
      have HM2 := Lib.hid hm
      clear hm
      go_wp2_with (fail)
      go_ret
      exact ⟨by rw [← HRES.out, HM2.out]; rfl, hb⟩
end Go.Proofs.Ytefnjplfemgibaa
