/- Arith (layer 14): Do as the laws call it; live. Written by argenv.py. -/
import Derived.Test.YtbpnlpjbjmojfaaGreatArU
import Derived.Deep.RegionHeld3
namespace Go.Proofs.YtbpnlpjbjmojfaaGreat
open Go.RowKit
set_option linter.unusedVariables false

def Yes (w : World) (e : Ending) (w' : World) : Prop := e = .returned (.bool true) ∧ Below w.heap.size w w'
section
variable {W w V V' : World} {u u1 u2 : Value} {t t1 t2 : TV}
theorem kept_all (V : World) : Kept V (ers (fun _ => False) V) := kept_of fun p v h => (ers_cell _ _ _).2 ⟨fun h => h, h⟩
theorem TVal.tex (h : TVal V u t) : TEx (fun _ => False) V u t := h.kept (kept_all V)
theorem LVal.lex {l : List TV} (h : LVal V u l) : LEx (fun _ => False) V u l := LVal.kept h (kept_all V)
theorem TVal.form (h : TVal V u t) : ∃ A n c, u = .agg #[.int .i64 t.kind, .int .i64 t.int, .string ⟨t.name.toArray⟩, .slice A n c] ∧ t.items.length = n := by
  obtain ⟨A, n, c, h1, h2, h3⟩ := h
  exact ⟨A, n, c, h1, h2⟩
theorem form_i {n : Int} (h : TVal V u (tI n)) : ∃ A c, u = .agg #[.int .i64 1, .int .i64 n, .string ⟨#[]⟩, .slice A 0 c] := by
  obtain ⟨A, m, c, h1, h2, h3⟩ := h
  exact ⟨A, c, by rw [h1, ← h2]; rfl⟩
theorem form_t {l : List TV} (h : TVal V u (tT l)) : ∃ A c, u = .agg #[.int .i64 6, .int .i64 0, .string ⟨#[]⟩, .slice A l.length c] := by
  obtain ⟨A, m, c, h1, h2, h3⟩ := h
  exact ⟨A, c, by rw [h1, ← h2]; rfl⟩
theorem good_i {n : Int} (h : -1152921504606846976 ≤ n ∧ n ≤ 1152921504606846976) : GoodT (tI n) := ⟨h, fun h => (by cases h), by simp [tI, TV.parts, TV.partsL]⟩
theorem good_a (s : List UInt8) : GoodT (tA s) := ⟨by show _ ≤ (0 : Int) ∧ (0 : Int) ≤ _; omega, fun h => (by cases h), by simp [tA, TV.parts, TV.partsL]⟩
theorem good_n : GoodT tN := ⟨by show _ ≤ (0 : Int) ∧ (0 : Int) ≤ _; omega, fun h => (by cases h), by simp [tN, TV.parts, TV.partsL]⟩
/-- What is a term is good. -/
theorem good_of (h : checkP [t] = 0) : GoodT t := by
  obtain ⟨h1, h2⟩ := checkP_le h
  simp only [TV.partsL, TV.isL, Nat.add_zero, Bool.and_true] at h1 h2
  cases t with
  | mk k n s l =>
    have h3 : headB k n s l.length = true := by simp only [TV.isT, Bool.and_eq_true] at h2; exact h2.1
    refine ⟨?_, ?_, by omega⟩
    · show -1152921504606846976 ≤ n ∧ n ≤ 1152921504606846976
      unfold headB at h3
      repeat' split at h3
      all_goals simp at h3 <;> omega
    · show k = 8 → l.length = 2
      rintro rfl
      unfold headB at h3
      simp at h3
      omega
/-- What Do leaves. -/
def DoEnds (V : World) (r : TV × List UInt8) (e : Ending) (w' : World) : Prop := ∃ u, e = .returned (.tuple #[u, .string ⟨r.2.toArray⟩]) ∧ TVal w' u r.1 ∧ Below V.heap.size V w'
theorem do_c {l : List TV} {name : List UInt8} {r : TV × List UInt8} (hr : doP name l = r) (hs : name.length ≤ 1000000) (hL : LVal V u l) (hG : ∀ t ∈ l, GoodT t) (hln : l.length ≤ 1000000) : Calls Tryz.prog 6 #[.string ⟨name.toArray⟩, u] V (DoEnds V r) := by
  rw [← hr]
  refine (do_v (X := fun _ => False) (fun _ h => h.elim) (by unfold maxLen; omega) hL.lex hG hln).mono ?_
  rintro e w' ⟨u', he, hT, hb⟩
  exact ⟨u', he, hT.val, hb⟩
theorem do1_at {k n : Int} {s : List UInt8} {A : Option Addr} {m c : Nat} (h : TVal V (.agg #[.int .i64 k, .int .i64 n, .string ⟨s.toArray⟩, .slice A m c]) t) (hG : GoodT t) {name : List UInt8} {r : TV × List UInt8} (hr : doP name [t] = r) (hs : name.length ≤ 1000000) :
    Calls Tryz.prog 6 #[.string ⟨name.toArray⟩, .slice (some ⟨V.heap.size, 0, none⟩) 1 1] (V.alloc (.cells #[.int .i64 k, .int .i64 n, .string ⟨s.toArray⟩, .slice A m c] 26)) (DoEnds V r) := by
  have hB := Blk.new V 26 #[.int .i64 k, .int .i64 n, .string ⟨s.toArray⟩, .slice A m c]
  refine (do_c hr hs ⟨_, 1, 1, rfl, rfl, Nat.le_refl _, by omega, .inr ⟨_, _, rfl, ?_⟩⟩ (by intro t' ht'; rw [List.mem_singleton.1 ht']; exact hG) (by simp)).mono ?_
  · simp only [TV.Row]
    exact ⟨tval_at (h.below (below_alloc _ _)) (hB.cell 0) (hB.cell 1) (hB.cell 2) (hB.cell 3), trivial⟩
  · rintro e w' ⟨u', he, hT, hb⟩
    exact ⟨u', he, hT, below_step (below_alloc _ _) hb⟩
theorem do2_at {k n k' n' : Int} {s s' : List UInt8} {A A' : Option Addr} {m c m' c' : Nat} (h : TVal V (.agg #[.int .i64 k, .int .i64 n, .string ⟨s.toArray⟩, .slice A m c]) t1) (h' : TVal V (.agg #[.int .i64 k', .int .i64 n', .string ⟨s'.toArray⟩, .slice A' m' c']) t2) (hG : GoodT t1) (hG' : GoodT t2) {name : List UInt8} {r : TV × List UInt8} (hr : doP name [t1, t2] = r) (hs : name.length ≤ 1000000) :
    Calls Tryz.prog 6 #[.string ⟨name.toArray⟩, .slice (some ⟨V.heap.size, 0, none⟩) 2 2] (V.alloc (.cells #[.int .i64 k, .int .i64 n, .string ⟨s.toArray⟩, .slice A m c, .int .i64 k', .int .i64 n', .string ⟨s'.toArray⟩, .slice A' m' c'] 26)) (DoEnds V r) := by
  have hB := Blk.new V 26 #[.int .i64 k, .int .i64 n, .string ⟨s.toArray⟩, .slice A m c, .int .i64 k', .int .i64 n', .string ⟨s'.toArray⟩, .slice A' m' c']
  refine (do_c hr hs ⟨_, 2, 2, rfl, rfl, rdM_two (fun j v hj => by rw [hB.cell]; exact hj) (h.below (below_alloc _ _)) (h'.below (below_alloc _ _))⟩ (by intro t' ht'; simp only [List.mem_cons, List.mem_nil_iff, or_false] at ht'; rcases ht' with rfl | rfl; exact hG; exact hG') (by simp)).mono ?_
  rintro e w' ⟨u', he, hT, hb⟩
  exact ⟨u', he, hT, below_step (below_alloc _ _) hb⟩
theorem lv1 : doP [100, 105, 118] [tI (-7), tI 2] = (tI (-3), []) := by rfl
theorem lv2 : doP [114, 101, 109] [tI (-7), tI 2] = (tI (-1), []) := by rfl
theorem lv3 : doP [43] [tI 576460752303423487, tI 1] = (tZ, sLim) := by rfl
theorem lv4 : doP [104, 100] [tN] = (tZ, sArg) := by rfl
theorem lv5 : doP [123, 125] [tI 1, tA [97]] = (tT [tI 1, tA [97]], []) := by rfl

theorem box_new (V w1 : World) (h : Below V.heap.size V w1) (x0 x1 x2 x3 : Value) (hT : TVal w1 (.agg #[x0, x1, x2, x3]) t) :
    Below V.heap.size V (w1.alloc (.cells #[x0, x1, x2, x3] 26)) ∧ Blk (w1.alloc (.cells #[x0, x1, x2, x3] 26)) w1.heap.size 26 #[x0, x1, x2, x3] ∧ TVal (w1.alloc (.cells #[x0, x1, x2, x3] 26)) (.agg #[x0, x1, x2, x3]) t :=
  ⟨below_step h (below_alloc _ _), Blk.new _ _ _, hT.below (below_alloc _ _)⟩
theorem int_from {B : World} (n : Int) (hB : Below B.heap.size B V) : Calls Tryz.prog 11 #[.int .i64 n] V fun e w' => e = .returned (.agg #[.int .i64 1, .int .i64 n, .string ⟨#[]⟩, .slice none 0 0]) ∧ Below B.heap.size B w' := (tint_any n V).mono fun e w' ⟨he, hb⟩ => ⟨he, below_step hB hb⟩
theorem atom_from {B : World} (s : List UInt8) (hB : Below B.heap.size B V) : Calls Tryz.prog 13 #[.string ⟨s.toArray⟩] V fun e w' => e = .returned (.agg #[.int .i64 2, .int .i64 0, .string ⟨s.toArray⟩, .slice none 0 0]) ∧ Below B.heap.size B w' := (tatom_v s V).mono fun e w' ⟨he, hb⟩ => ⟨he, below_step hB hb⟩
theorem nil_from {B : World} (hB : Below B.heap.size B V) : Calls Tryz.prog 12 #[] V fun e w' => e = .returned (.agg #[.int .i64 7, .int .i64 0, .string ⟨#[]⟩, .slice none 0 0]) ∧ Below B.heap.size B w' := (tnil_v V).mono fun e w' ⟨he, hb⟩ => ⟨he, below_step hB hb⟩
/-- A box with a term. -/
def BoxT (V : World) (g : Nat) (v : Value) (t : TV) : Prop := ∃ x0 x1 x2 x3, v = .agg #[x0, x1, x2, x3] ∧ Blk V g 26 #[x0, x1, x2, x3] ∧ TVal V v t

set_option maxRecDepth 100000 in
set_option maxHeartbeats 4000000 in
theorem live_any (w : World) : Calls Tryz.prog 5 #[] w (Yes w) := by
  go_enter Tryz.func5, Tryz.ntmps5
  go_upto_region 1 with (fail)
  refine wp_world (fun V => Below w.heap.size w V) (Below.refl _ _) ?_
  intro V0 hw0
  have HW := Lib.hid hw0
  clear hw0
  have hbw := Below.refl V0.heap.size V0
  go_upto_region 2 with (first
    | (go_at_call 13; refine (atom_from _ hbw).mono ?_; clear hbw; rintro e wa ⟨rfl, hbw⟩)
    | (go_at_call 11; refine (int_from _ hbw).mono ?_; clear hbw; rintro e wi ⟨rfl, hbw⟩)
    | (go_at_call 12; refine (nil_from hbw).mono ?_; clear hbw; rintro e wi ⟨rfl, hbw⟩)
    | (go_at_call 6; refine (do2_at (tval_i _ _) (tval_i _ _) (good_i (by omega)) (good_i (by omega)) lv1 (by simp)).mono ?_; rintro e w1 ⟨u1, rfl, hT, hb1⟩; obtain ⟨A10, c10, rfl⟩ := form_i hT))
  obtain ⟨hbT, hBk, hTk⟩ := box_new V0 w1 (below_step hbw hb1) _ _ _ _ hT
  obtain ⟨g1, hg1⟩ : ∃ g, w1.heap.size = g := ⟨_, rfl⟩
  rw [hg1] at hBk ⊢
  refine wp_world (fun V => Below w.heap.size w V ∧ Blk V g1 26 #[.int .i64 1, .int .i64 (-3), .string ⟨#[]⟩, .slice A10 0 c10] ∧ TVal V (.agg #[.int .i64 1, .int .i64 (-3), .string ⟨#[]⟩, .slice A10 0 c10]) (tI (-3))) (⟨below_step HW.out hbT, hBk, hTk⟩) ?_
  rintro V1 ⟨hw, hkg1, htg1⟩
  clear hbw hb1 hbT hBk hTk hT hg1
  have HW := Lib.hid hw
  have HKg1 := Lib.hid hkg1
  have HTg1 := Lib.hid htg1
  clear hw hkg1 htg1
  have hbw := Below.refl V1.heap.size V1
  go_upto_region 3 with (first
    | (go_at_call 13; refine (atom_from _ hbw).mono ?_; clear hbw; rintro e wa ⟨rfl, hbw⟩)
    | (go_at_call 11; refine (int_from _ hbw).mono ?_; clear hbw; rintro e wi ⟨rfl, hbw⟩)
    | (go_at_call 12; refine (nil_from hbw).mono ?_; clear hbw; rintro e wi ⟨rfl, hbw⟩)
    | (go_at_call 6; refine (do2_at (tval_i _ _) (tval_i _ _) (good_i (by omega)) (good_i (by omega)) lv2 (by simp)).mono ?_; rintro e w1 ⟨u1, rfl, hT, hb1⟩; obtain ⟨A20, c20, rfl⟩ := form_i hT))
  obtain ⟨hbT, hBk, hTk⟩ := box_new V1 w1 (below_step hbw hb1) _ _ _ _ hT
  obtain ⟨g2, hg2⟩ : ∃ g, w1.heap.size = g := ⟨_, rfl⟩
  rw [hg2] at hBk ⊢
  refine wp_world (fun V => Below w.heap.size w V ∧ Blk V g1 26 #[.int .i64 1, .int .i64 (-3), .string ⟨#[]⟩, .slice A10 0 c10] ∧ TVal V (.agg #[.int .i64 1, .int .i64 (-3), .string ⟨#[]⟩, .slice A10 0 c10]) (tI (-3)) ∧ Blk V g2 26 #[.int .i64 1, .int .i64 (-1), .string ⟨#[]⟩, .slice A20 0 c20] ∧ TVal V (.agg #[.int .i64 1, .int .i64 (-1), .string ⟨#[]⟩, .slice A20 0 c20]) (tI (-1))) (⟨below_step HW.out hbT, HKg1.out.keep hbT, HTg1.out.below hbT, hBk, hTk⟩) ?_
  rintro V2 ⟨hw, hkg1, htg1, hkg2, htg2⟩
  clear hbw hb1 hbT hBk hTk hT hg2
  have HW := Lib.hid hw
  have HKg1 := Lib.hid hkg1
  have HTg1 := Lib.hid htg1
  have HKg2 := Lib.hid hkg2
  have HTg2 := Lib.hid htg2
  clear hw hkg1 htg1 hkg2 htg2
  have hbw := Below.refl V2.heap.size V2
  go_upto_region 4 with (first
    | (go_at_call 13; refine (atom_from _ hbw).mono ?_; clear hbw; rintro e wa ⟨rfl, hbw⟩)
    | (go_at_call 11; refine (int_from _ hbw).mono ?_; clear hbw; rintro e wi ⟨rfl, hbw⟩)
    | (go_at_call 12; refine (nil_from hbw).mono ?_; clear hbw; rintro e wi ⟨rfl, hbw⟩)
    | (go_at_call 6; refine (do2_at (tval_i _ _) (tval_i _ _) (good_i (by omega)) (good_i (by omega)) lv3 (by simp)).mono ?_; rintro e w1 ⟨u1, rfl, hT, hb1⟩; obtain ⟨A1, n1, c1, rfl, _⟩ := hT.form))
  obtain ⟨hbT, hBk, hTk⟩ := box_new V2 w1 (below_step hbw hb1) _ _ _ _ hT
  refine wp_world (fun V => Below w.heap.size w V ∧ Blk V g1 26 #[.int .i64 1, .int .i64 (-3), .string ⟨#[]⟩, .slice A10 0 c10] ∧ TVal V (.agg #[.int .i64 1, .int .i64 (-3), .string ⟨#[]⟩, .slice A10 0 c10]) (tI (-3)) ∧ Blk V g2 26 #[.int .i64 1, .int .i64 (-1), .string ⟨#[]⟩, .slice A20 0 c20] ∧ TVal V (.agg #[.int .i64 1, .int .i64 (-1), .string ⟨#[]⟩, .slice A20 0 c20]) (tI (-1))) (⟨below_step HW.out hbT, HKg1.out.keep hbT, HTg1.out.below hbT, HKg2.out.keep hbT, HTg2.out.below hbT⟩) ?_
  rintro V3 ⟨hw, hkg1, htg1, hkg2, htg2⟩
  clear hbw hb1 hbT hBk hTk hT
  have HW := Lib.hid hw
  have HKg1 := Lib.hid hkg1
  have HTg1 := Lib.hid htg1
  have HKg2 := Lib.hid hkg2
  have HTg2 := Lib.hid htg2
  clear hw hkg1 htg1 hkg2 htg2
  have hbw := Below.refl V3.heap.size V3
  go_upto_region 5 with (first
    | (go_at_call 13; refine (atom_from _ hbw).mono ?_; clear hbw; rintro e wa ⟨rfl, hbw⟩)
    | (go_at_call 11; refine (int_from _ hbw).mono ?_; clear hbw; rintro e wi ⟨rfl, hbw⟩)
    | (go_at_call 12; refine (nil_from hbw).mono ?_; clear hbw; rintro e wi ⟨rfl, hbw⟩)
    | (go_at_call 6; refine (do1_at (tval_n _) good_n lv4 (by simp)).mono ?_; rintro e w1 ⟨u1, rfl, hT, hb1⟩; obtain ⟨A1, n1, c1, rfl, _⟩ := hT.form))
  obtain ⟨hbT, hBk, hTk⟩ := box_new V3 w1 (below_step hbw hb1) _ _ _ _ hT
  refine wp_world (fun V => Below w.heap.size w V ∧ Blk V g1 26 #[.int .i64 1, .int .i64 (-3), .string ⟨#[]⟩, .slice A10 0 c10] ∧ TVal V (.agg #[.int .i64 1, .int .i64 (-3), .string ⟨#[]⟩, .slice A10 0 c10]) (tI (-3)) ∧ Blk V g2 26 #[.int .i64 1, .int .i64 (-1), .string ⟨#[]⟩, .slice A20 0 c20] ∧ TVal V (.agg #[.int .i64 1, .int .i64 (-1), .string ⟨#[]⟩, .slice A20 0 c20]) (tI (-1))) (⟨below_step HW.out hbT, HKg1.out.keep hbT, HTg1.out.below hbT, HKg2.out.keep hbT, HTg2.out.below hbT⟩) ?_
  rintro V4 ⟨hw, hkg1, htg1, hkg2, htg2⟩
  clear hbw hb1 hbT hBk hTk hT
  have HW := Lib.hid hw
  have HKg1 := Lib.hid hkg1
  have HTg1 := Lib.hid htg1
  have HKg2 := Lib.hid hkg2
  have HTg2 := Lib.hid htg2
  clear hw hkg1 htg1 hkg2 htg2
  have hbw := Below.refl V4.heap.size V4
  go_upto_region 6 with (first
    | (go_at_call 13; refine (atom_from _ hbw).mono ?_; clear hbw; rintro e wa ⟨rfl, hbw⟩)
    | (go_at_call 11; refine (int_from _ hbw).mono ?_; clear hbw; rintro e wi ⟨rfl, hbw⟩)
    | (go_at_call 12; refine (nil_from hbw).mono ?_; clear hbw; rintro e wi ⟨rfl, hbw⟩)
    | (go_at_call 6; refine (do2_at (tval_i _ _) (tval_a _ _) (good_i (by omega)) (good_a _) lv5 (by simp)).mono ?_; rintro e w1 ⟨u1, rfl, hT, hb1⟩; obtain ⟨A50, c50, rfl⟩ := form_t hT))
  obtain ⟨hbT, hBk, hTk⟩ := box_new V4 w1 (below_step hbw hb1) _ _ _ _ hT
  obtain ⟨g5, hg5⟩ : ∃ g, w1.heap.size = g := ⟨_, rfl⟩
  rw [hg5] at hBk ⊢
  refine wp_world (fun V => Below w.heap.size w V ∧ Blk V g1 26 #[.int .i64 1, .int .i64 (-3), .string ⟨#[]⟩, .slice A10 0 c10] ∧ TVal V (.agg #[.int .i64 1, .int .i64 (-3), .string ⟨#[]⟩, .slice A10 0 c10]) (tI (-3)) ∧ Blk V g2 26 #[.int .i64 1, .int .i64 (-1), .string ⟨#[]⟩, .slice A20 0 c20] ∧ TVal V (.agg #[.int .i64 1, .int .i64 (-1), .string ⟨#[]⟩, .slice A20 0 c20]) (tI (-1)) ∧ Blk V g5 26 #[.int .i64 6, .int .i64 0, .string ⟨#[]⟩, .slice A50 2 c50] ∧ TVal V (.agg #[.int .i64 6, .int .i64 0, .string ⟨#[]⟩, .slice A50 2 c50]) (tT [tI 1, tA [97]])) (⟨below_step HW.out hbT, HKg1.out.keep hbT, HTg1.out.below hbT, HKg2.out.keep hbT, HTg2.out.below hbT, hBk, hTk⟩) ?_
  rintro V5 ⟨hw, hkg1, htg1, hkg2, htg2, hkg5, htg5⟩
  clear hbw hb1 hbT hBk hTk hT hg5
  have HW := Lib.hid hw
  have HKg1 := Lib.hid hkg1
  have HTg1 := Lib.hid htg1
  have HKg2 := Lib.hid hkg2
  have HTg2 := Lib.hid htg2
  have HKg5 := Lib.hid hkg5
  have HTg5 := Lib.hid htg5
  clear hw hkg1 htg1 hkg2 htg2 hkg5 htg5
  have HKP : Hid (∀ V, Below V5.heap.size V5 V → (V.cell? ⟨g1, 0, none⟩ = some (.int .i64 1) ∧ V.cell? ⟨g1, 1, none⟩ = some (.int .i64 (-3)) ∧ V.cell? ⟨g1, 2, none⟩ = some (.string ⟨#[]⟩) ∧ V.cell? ⟨g1, 3, none⟩ = some (.slice A10 0 c10) ∧ V.cell? ⟨g2, 0, none⟩ = some (.int .i64 1) ∧ V.cell? ⟨g2, 1, none⟩ = some (.int .i64 (-1)) ∧ V.cell? ⟨g2, 2, none⟩ = some (.string ⟨#[]⟩) ∧ V.cell? ⟨g2, 3, none⟩ = some (.slice A20 0 c20) ∧ V.cell? ⟨g5, 0, none⟩ = some (.int .i64 6) ∧ V.cell? ⟨g5, 1, none⟩ = some (.int .i64 0) ∧ V.cell? ⟨g5, 2, none⟩ = some (.string ⟨#[]⟩) ∧ V.cell? ⟨g5, 3, none⟩ = some (.slice A50 2 c50)) ∧ Below V5.heap.size V5 V) := fun V hb => ⟨⟨(HKg1.out.keep hb).cell 0, (HKg1.out.keep hb).cell 1, (HKg1.out.keep hb).cell 2, (HKg1.out.keep hb).cell 3, (HKg2.out.keep hb).cell 0, (HKg2.out.keep hb).cell 1, (HKg2.out.keep hb).cell 2, (HKg2.out.keep hb).cell 3, (HKg5.out.keep hb).cell 0, (HKg5.out.keep hb).cell 1, (HKg5.out.keep hb).cell 2, (HKg5.out.keep hb).cell 3⟩, hb⟩
  have HSg1 : Hid (∀ V, Below V5.heap.size V5 V → Calls Tryz.prog 14 #[.agg #[.int .i64 1, .int .i64 (-3), .string ⟨#[]⟩, .slice A10 0 c10], .agg #[.int .i64 1, .int .i64 (-3), .string ⟨#[]⟩, .slice none 0 0]] V fun e w' => e = .returned (.bool true) ∧ Below V.heap.size V w') := fun V hb => same_v (HTg1.out.below hb) (tval_i V (-3))
  have HSg2 : Hid (∀ V, Below V5.heap.size V5 V → Calls Tryz.prog 14 #[.agg #[.int .i64 1, .int .i64 (-1), .string ⟨#[]⟩, .slice A20 0 c20], .agg #[.int .i64 1, .int .i64 (-1), .string ⟨#[]⟩, .slice none 0 0]] V fun e w' => e = .returned (.bool true) ∧ Below V.heap.size V w') := fun V hb => same_v (HTg2.out.below hb) (tval_i V (-1))
  have HPR : Hid (∀ V, Below V5.heap.size V5 V → Calls Tryz.prog 15 #[.agg #[.int .i64 6, .int .i64 0, .string ⟨#[]⟩, .slice A50 2 c50]] V fun e w' => e = .returned (.string ⟨#[123, 49, 44, 97, 125]⟩) ∧ Below V.heap.size V w') := fun V hb => print_1a (HTg5.out.below hb)
  have H00 : Hid (Below V5.heap.size V5 V5.drew) := (Below.refl _ _).drew
  clear HKg1 HKg2 HKg5 HTg1 HTg2 HTg5
  have hcat : (⟨#[]⟩ : ByteArray) ++ ⟨#[]⟩ = ⟨#[]⟩ := by rfl
  have hlim : sLim = [115, 121, 115, 116, 101, 109, 95, 108, 105, 109, 105, 116] := rfl
  have harg : sArg = [98, 97, 100, 97, 114, 103] := rfl
  go_region_held3 (fun V => (V.cell? ⟨g1, 0, none⟩ = some (.int .i64 1) ∧ V.cell? ⟨g1, 1, none⟩ = some (.int .i64 (-3)) ∧ V.cell? ⟨g1, 2, none⟩ = some (.string ⟨#[]⟩) ∧ V.cell? ⟨g1, 3, none⟩ = some (.slice A10 0 c10) ∧ V.cell? ⟨g2, 0, none⟩ = some (.int .i64 1) ∧ V.cell? ⟨g2, 1, none⟩ = some (.int .i64 (-1)) ∧ V.cell? ⟨g2, 2, none⟩ = some (.string ⟨#[]⟩) ∧ V.cell? ⟨g2, 3, none⟩ = some (.slice A20 0 c20) ∧ V.cell? ⟨g5, 0, none⟩ = some (.int .i64 6) ∧ V.cell? ⟨g5, 1, none⟩ = some (.int .i64 0) ∧ V.cell? ⟨g5, 2, none⟩ = some (.string ⟨#[]⟩) ∧ V.cell? ⟨g5, 3, none⟩ = some (.slice A50 2 c50)) ∧ Below V5.heap.size V5 V) (first | exact HKP.out _ H00.out | exact HKP.out _ (by assumption) | assumption) ((first
    | (go_at_call 11; refine (tint_any _ _).mono ?_; rintro r V9 ⟨rfl, hb9⟩; have hP9 : Below V5.heap.size V5 V9 := below_step (And.right (by assumption)) hb9; clear hb9)
    | (go_at_call 14; (with_reducible refine (HSg1.out _ (And.right (by assumption))).mono ?_); rintro r V9 ⟨rfl, hb9⟩; have hP9 : Below V5.heap.size V5 V9 := below_step (And.right (by assumption)) hb9; clear hb9)
    | (go_at_call 14; (with_reducible refine (HSg2.out _ (And.right (by assumption))).mono ?_); rintro r V9 ⟨rfl, hb9⟩; have hP9 : Below V5.heap.size V5 V9 := below_step (And.right (by assumption)) hb9; clear hb9)
    | (go_at_call 15; refine (HPR.out _ (And.right (by assumption))).mono ?_; rintro r V9 ⟨rfl, hb9⟩; have hP9 : Below V5.heap.size V5 V9 := below_step (And.right (by assumption)) hb9; clear hb9)))
  rename_i hHeld9
  have hH9 := hHeld9.2
  clear hHeld9
  go_wp2
  go_ret
  exact ⟨rfl, below_step HW.out hH9⟩
theorem live_from {w W : World} (h : Below w.heap.size w W) : Calls Tryz.prog 5 #[] W (Yes w) :=
  (live_any W).mono fun e w' ⟨he, hb⟩ => ⟨he, below_step h hb⟩
end
end Go.Proofs.YtbpnlpjbjmojfaaGreat
