/- The term package's is, Check, Size: their contracts. -/
import Derived.Test.YtefnjplfemgibaaTermJ
namespace Go.Proofs.Ytefnjplfemgibaa
open Go.RowKit
set_option linter.unusedVariables false

set_option maxRecDepth 100000 in
set_option maxHeartbeats 2000000 in
theorem is_other (k n : Int) (s : List UInt8) (A : Option Addr) (len c : Nat) (b : Bool) (W : World) (h1 : k ≠ 1) (h2 : k ≠ 2) (h3 : k ≠ 3) (h4 : k ≠ 4) (h5 : k ≠ 5) (h6 : k ≠ 6) (h7 : k ≠ 7) (h8 : k ≠ 8) :
    Calls Try.prog 60 #[.agg #[.int .i64 k, .int .i64 n, .string ⟨s.toArray⟩, .slice A len c]] W (IsEnds W k n s len b) := by
  have HF := Lib.hid (show headB k n s len = false by simp [headB, h1, h2, h3, h4, h5, h6, h7, h8])
  have d1 : (k == 1) = false := by simp [h1]
  have d2 : (k == 2) = false := by simp [h2]
  have d3 : (k == 3) = false := by simp [h3]
  have d4 : (k == 4) = false := by simp [h4]
  have d5 : (k == 5) = false := by simp [h5]
  have d6 : (k == 6) = false := by simp [h6]
  have d7 : (k == 7) = false := by simp [h7]
  have d8 : (k == 8) = false := by simp [h8]
  clear h1 h2 h3 h4 h5 h6 h7 h8
  go_enter Try.func60, Try.ntmps60
  go_upto_region 2 with (fail)
  go_region
  go_upto_region 5 with (fail)
  refine wp_world (IS W #[.int .i64 k, .int .i64 n, .string ⟨s.toArray⟩, .slice A len c] #[.int .i64 k, .int .i64 0, .string ⟨#[]⟩, .slice A len c]) (IS.new W _ _) ?_
  intro V1 hV1
  go_wp2_with (fail)
  go_ret
  exact ⟨by rw [HF.out]; rfl, hV1.bel⟩

theorem is_head (k n : Int) (s : List UInt8) (A : Option Addr) (len c : Nat) (b : Bool) (W : World) (hlc : len ≤ 9223372036854775807) (hsl : s.length ≤ 9223372036854775807)
    (hct : ∀ V, Below W.heap.size W V → Calls Try.prog 58 #[.slice A len c, .func (.func 89) #[] #[]] V fun e w' => e = .returned (.bool (!b)) ∧ Below V.heap.size V w') :
    Calls Try.prog 60 #[.agg #[.int .i64 k, .int .i64 n, .string ⟨s.toArray⟩, .slice A len c]] W (IsEnds W k n s len b) := by
  by_cases h1 : k = 1
  · subst h1; exact is_k1 n s A len c b W hlc hsl hct
  by_cases h2 : k = 2
  · subst h2; exact is_k2 n s A len c b W hlc hsl hct
  by_cases h3 : k = 3
  · subst h3; exact is_k3 n s A len c b W hlc hsl hct
  by_cases h4 : k = 4
  · subst h4; exact is_k4 n s A len c b W hlc hsl hct
  by_cases h5 : k = 5
  · subst h5; exact is_k5 n s A len c b W hlc hsl hct
  by_cases h6 : k = 6
  · subst h6; exact is_k6 n s A len c b W hlc hsl hct
  by_cases h7 : k = 7
  · subst h7; exact is_k7 n s A len c b W hlc hsl hct
  by_cases h8 : k = 8
  · subst h8; exact is_k8 n s A len c b W hlc hsl hct
  exact is_other k n s A len c b W h1 h2 h3 h4 h5 h6 h7 h8

mutual
/-- No name in a term is longer than may be. -/
def TV.named : TV → Prop
  | .mk _ _ s l => s.length ≤ 140737488351232 ∧ TV.namedL l
def TV.namedL : List TV → Prop
  | [] => True
  | t :: r => t.named ∧ TV.namedL r
end
theorem namedL_at : ∀ {l : List TV}, TV.namedL l → ∀ {k : Nat} (h : k < l.length), l[k].named
  | [], _, _, h => by simp at h
  | t :: r, hn, 0, _ => by simp only [TV.namedL] at hn; exact hn.1
  | t :: r, hn, k + 1, h => by simp only [TV.namedL] at hn; exact namedL_at hn.2 (by simpa using h)
theorem TV.named_iff (t : TV) : t.named ↔ t.name.length ≤ 140737488351232 ∧ TV.namedL t.items := by cases t; simp [TV.named, TV.name, TV.items]
theorem TV.isT_eq (t : TV) : t.isT = (headB t.kind t.int t.name t.items.length && TV.isL t.items) := by cases t; simp [TV.isT, TV.kind, TV.int, TV.name, TV.items]

/-- is: at every term. -/
theorem is_any (N : Nat) : ∀ (t : TV) (A : Option Addr) (c : Nat) (w0 W : World), t.parts ≤ N → t.named → Below w0.heap.size w0 W → RdM w0 A c t.items →
    Calls Try.prog 60 #[.agg #[.int .i64 t.kind, .int .i64 t.int, .string ⟨t.name.toArray⟩, .slice A t.items.length c]] W fun e w' => e = .returned (.bool t.isT) ∧ Below W.heap.size W w' := by
  induction N with
  | zero => intro t A c w0 W ht; have := t.parts_pos; omega
  | succ N ih =>
    intro t A c w0 W ht hnm hW hR
    obtain ⟨hn1, hn2⟩ := (TV.named_iff t).1 hnm
    rw [TV.isT_eq]
    refine is_head t.kind t.int t.name A t.items.length c (TV.isL t.items) W (by have := hR.1; have := hR.2.1; omega) (by omega) (fun V hV => ?_)
    refine idx_is t.items A t.items.length c w0 V rfl (below_step hW hV) hR (fun k hk A' c' W' hW' hR' => ?_)
    have hpk := parts_item t.items k hk
    have hpe := t.parts_eq
    have HC := Lib.hid (fun V2 (h : Below w0.heap.size w0 V2) => ih t.items[k] A' c' w0 V2 (by omega) (namedL_at hn2 hk) h hR')
    generalize t.items[k] = ti at *
    generalize ti.items.length = tl at *
    clear hpk hpe hn1 hn2 hnm ht ih
    go_enter Try.func89, Try.ntmps89
    go_wp2_with (go_at_call 60; refine (HC.out _ (below_step hW' (below_alloc _ _))).mono ?_; rintro e w5 ⟨rfl, hb5⟩)
    go_ret
    exact ⟨rfl, below_step (below_alloc _ _) hb5⟩

set_option maxHeartbeats 1000000 in
theorem check1_any (t : TV) (A : Option Addr) (c : Nat) (w0 W : World) (hnm : t.named) (hW : Below w0.heap.size w0 W) (hR : RdM w0 A c t.items) :
    Calls Try.prog 59 #[.agg #[.int .i64 t.kind, .int .i64 t.int, .string ⟨t.name.toArray⟩, .slice A t.items.length c]] W fun e w' => e = .returned (.bool (!t.isT)) ∧ Below W.heap.size W w' := by
  have HC := Lib.hid (fun V2 (h : Below w0.heap.size w0 V2) => is_any t.parts t A c w0 V2 (Nat.le_refl _) hnm h hR)
  generalize t.items.length = tl at *
  clear hnm
  go_enter Try.func59, Try.ntmps59
  go_wp2_with (go_at_call 60; refine (HC.out _ (below_step hW (below_alloc _ _))).mono ?_; rintro e w5 ⟨rfl, hb5⟩)
  go_ret
  exact ⟨rfl, below_step (below_alloc _ _) hb5⟩

/-- How many parts, up to one more than may be. -/
def sizeP (n : Nat) : Nat := if n ≤ 4096 then n else 4097
/-- Check, as a function. -/
def checkP (l : List TV) : Nat := if TV.partsL l ≤ 4096 then (if TV.isL l then 0 else 70) else 6
set_option maxHeartbeats 2000000 in
theorem check_any (l : List TV) (A : Option Addr) (len c : Nat) (w0 W : World) (hlen : l.length = len) (hnm : TV.namedL l) (hW : Below w0.heap.size w0 W) (hR : RdM w0 A c l) :
    Calls Try.prog 32 #[.slice A len c] W fun e w' => e = .returned (.int .i64 (checkP l : Nat)) ∧ Below W.heap.size W w' := by
  have HLEN := Lib.hid hlen
  have hlc : len ≤ 9223372036854775807 := by have := hR.1; have := hR.2.1; omega
  have HCF := Lib.hid (fun V (h : Below w0.heap.size w0 V) => idx_check l A len c w0 V hlen h hR (fun k hk A' c' W' hW' hR' => check1_any l[k] A' c' w0 W' (namedL_at hnm hk) hW' hR'))
  clear hlen hnm
  go_enter Try.func32, Try.ntmps32
  go_upto_region 3 with (fail)
  refine wp_world (fun V => Blk V W.heap.size 105 #[.int .i64 ((TV.partsL (l.take 0) : Nat) : Int)] ∧ Below W.heap.size W V) ⟨by simpa [TV.partsL] using Blk.new W 105 #[.int .i64 0], below_alloc _ _⟩ ?_
  rintro V1 ⟨hB1, hb1⟩
  go_loopw [8] (fun i wr => ∃ k : Nat, k ≤ len ∧ i = .int .i64 k ∧ TV.partsL (l.take k) ≤ 4096 ∧ Blk wr W.heap.size 105 #[.int .i64 ((TV.partsL (l.take k) : Nat) : Int)] ∧ Below W.heap.size W wr) (fun i _ => len - (intOf i).toNat)
  case atStart => exact ⟨0, Nat.zero_le _, rfl, by simp [TV.partsL], hB1, hb1⟩
  case round =>
    obtain ⟨k, hk, rfl, hle, hBr, hb⟩ := hrel
    clear hB1 hb1
    have hbr := below_step hW hb
    by_cases hlt : k < len
    · have hkl : k < l.length := by rw [HLEN.out]; exact hlt
      obtain ⟨b, o, A', c', rfl, h0, h1, h2, h3, hR'⟩ := hR.item hkl
      have hpt := partsL_take l k hkl
      have e0 := (hbr.cell (World.block_lt_of_cell? w0 _ h0)).trans h0
      have e1 := (hbr.cell (World.block_lt_of_cell? w0 _ h1)).trans h1
      have e2 := (hbr.cell (World.block_lt_of_cell? w0 _ h2)).trans h2
      have e3 := (hbr.cell (World.block_lt_of_cell? w0 _ h3)).trans h3
      have HC := Lib.hid (count_any l[k].parts l[k] A' c' (TV.partsL (l.take k)) W.heap.size w0 (wr.alloc (.cells #[.int .i64 l[k].kind, .int .i64 l[k].int, .string ⟨l[k].name.toArray⟩, .slice A' l[k].items.length c'] 37)) (Nat.le_refl _) hle (below_step hbr (below_alloc _ _)) hW.size hR' (hBr.alloc _))
      obtain ⟨y, hy⟩ : ∃ y, TV.partsL (l.take k) = y := ⟨_, rfl⟩
      rw [hy] at HC hle
      have HY := Lib.hid hy
      have HPT := Lib.hid hpt
      generalize l[k] = ti at *
      obtain ⟨tp, htp⟩ : ∃ tp, ti.parts = tp := ⟨_, rfl⟩
      rw [htp] at HC
      have HTP := Lib.hid htp
      generalize ti.items.length = tl at *
      have q1 : (0 : Int) ≤ (k : Int) := by omega
      have q2 : (k : Int) < (len : Int) := by omega
      have hd2 : decide (k < len) = true := by simp; omega
      clear h0 h1 h2 h3 hy hpt htp hkl hR' hBr
      unfold CountEnds at HC
      by_cases hov : y + tp ≤ 4096
      · rw [countP_yes hov] at HC
        go_wp2_with (go_at_call 57; refine HC.out.mono ?_; rintro e w5 ⟨rfl, hB5, hF5⟩)
        have hb5 : Below W.heap.size W w5 := hb.trans (((below_alloc wr _).mono hb.size).trans (hF5.below (by simp; have := hb.size; omega) (fun j hj => by rw [hj]; exact Nat.le_refl _)))
        go_roundw
        case rel => exact ⟨k + 1, by omega, by go_num, by rw [HPT.out, HTP.out]; have := HY.out; omega, by rw [HPT.out, HTP.out, HY.out]; exact hB5, hb5⟩
        case measure => simp [intOf]; omega
      · rw [countP_no hov] at HC
        go_wp2_with (go_at_call 57; refine HC.out.mono ?_; rintro e w5 ⟨rfl, hB5, hF5⟩)
        have hb5 : Below W.heap.size W w5 := hb.trans (((below_alloc wr _).mono hb.size).trans (hF5.below (by simp; have := hb.size; omega) (fun j hj => by rw [hj]; exact Nat.le_refl _)))
        go_ret
        have h9 := partsL_take_le l (k + 1)
        rw [HPT.out, HTP.out, HY.out] at h9
        exact ⟨by unfold checkP; rw [if_neg (by omega)]; rfl, hb5⟩
    · obtain rfl : k = len := by omega
      have hd2 : decide (k < k) = false := by simp
      rw [List.take_of_length_le (by rw [HLEN.out]; exact Nat.le_refl _)] at hle
      have HCC := Lib.hid (HCF.out wr hbr)
      cases hl : TV.isL l with
      | true =>
        have HK := Lib.hid (show checkP l = 0 by unfold checkP; rw [if_pos hle, hl]; rfl)
        rw [hl] at HCC
        go_wp2_with (go_at_call 58; refine HCC.out.mono ?_; rintro e w5 ⟨rfl, hb5⟩)
        go_ret
        exact ⟨by rw [HK.out]; rfl, below_step hb hb5⟩
      | false =>
        have HK := Lib.hid (show checkP l = 70 by unfold checkP; rw [if_pos hle, hl]; rfl)
        rw [hl] at HCC
        go_wp2_with (go_at_call 58; refine HCC.out.mono ?_; rintro e w5 ⟨rfl, hb5⟩)
        go_ret
        exact ⟨by rw [HK.out]; rfl, below_step hb hb5⟩
end Go.Proofs.Ytefnjplfemgibaa
