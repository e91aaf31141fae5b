/- Arith (layer 14), the document's answer: one and two by every name. Written by argenri.py. -/
import Derived.Test.YtbpnlpjbjmojfaaGreatArRh
namespace Go.Proofs.YtbpnlpjbjmojfaaGreat
open Go.RowKit
set_option linter.unusedVariables false
section
variable {w W V V' : World} {u u1 u2 : Value} {t t1 t2 : TV}

set_option maxRecDepth 100000 in
set_option maxHeartbeats 1000000 in
theorem rone_v {X : Nat → Prop} (hX : ∀ k, X k → k < W.heap.size) (h1 : TEx X W u1 t1) (hG : GoodT t1) (s : List UInt8) : Calls Tryz.prog 23 #[.string ⟨s.toArray⟩, u1] W (R2 X W (oneP s t1)) := by
  by_cases c0 : s = [45]
  · subst c0
    exact rone_neg hX h1 hG.int
  by_cases c1 : s = [110, 111, 116]
  · subst c1
    exact rone_not hX h1
  by_cases c2 : s = [105, 115, 95, 105, 110, 116, 101, 103, 101, 114]
  · subst c2
    exact rone_is_integer hX h1
  by_cases c3 : s = [105, 115, 95, 97, 116, 111, 109]
  · subst c3
    exact rone_is_atom hX h1
  by_cases c4 : s = [105, 115, 95, 112, 105, 100]
  · subst c4
    exact rone_is_pid hX h1
  by_cases c5 : s = [105, 115, 95, 114, 101, 102, 101, 114, 101, 110, 99, 101]
  · subst c5
    exact rone_is_reference hX h1
  by_cases c6 : s = [105, 115, 95, 102, 117, 110, 99, 116, 105, 111, 110]
  · subst c6
    exact rone_is_function hX h1
  by_cases c7 : s = [105, 115, 95, 116, 117, 112, 108, 101]
  · subst c7
    exact rone_is_tuple hX h1
  by_cases c8 : s = [105, 115, 95, 108, 105, 115, 116]
  · subst c8
    exact rone_is_list hX h1
  by_cases c9 : s = [104, 100]
  · subst c9
    exact rone_hd hX h1 hG.cons
  by_cases c10 : s = [116, 108]
  · subst c10
    exact rone_tl hX h1 hG.cons
  by_cases c11 : s = [116, 117, 112, 108, 101, 95, 115, 105, 122, 101]
  · subst c11
    exact rone_tuple_size hX h1
  by_cases c12 : s = [116, 117, 112, 108, 101, 95, 116, 111, 95, 108, 105, 115, 116]
  · subst c12
    exact rone_tuple_to_list hX h1 hG.len
  by_cases c13 : s = [108, 101, 110, 103, 116, 104]
  · subst c13
    exact rone_length hX h1 hG.parts
  by_cases c14 : s = [108, 105, 115, 116, 95, 116, 111, 95, 116, 117, 112, 108, 101]
  · subst c14
    exact rone_list_to_tuple hX h1 hG.parts
  by_cases c15 : s = [114, 101, 118, 101, 114, 115, 101]
  · subst c15
    exact rone_reverse hX h1 hG.parts
  have hno : s ∉ onesN := by simp [onesN, c0, c1, c2, c3, c4, c5, c6, c7, c8, c9, c10, c11, c12, c13, c14, c15]
  rw [oneP_no hno]
  exact rone_other hX h1 hG.parts (fun n hn he => hno (he ▸ hn))
set_option maxRecDepth 100000 in
set_option maxHeartbeats 1000000 in
theorem rtwo_v {X : Nat → Prop} (hX : ∀ k, X k → k < W.heap.size) (h1 : TEx X W u1 t1) (h2 : TEx X W u2 t2) (hG1 : GoodT t1) (hG2 : GoodT t2) (s : List UInt8) : Calls Tryz.prog 24 #[.string ⟨s.toArray⟩, u1, u2] W (R2 X W (twoP s t1 t2)) := by
  by_cases c0 : s = [43]
  · subst c0
    exact rtwo_add hX h1 h2 hG1.int hG2.int
  by_cases c1 : s = [45]
  · subst c1
    exact rtwo_sub hX h1 h2 hG1.int hG2.int
  by_cases c2 : s = [42]
  · subst c2
    exact rtwo_mul hX h1 h2 hG1.int hG2.int
  by_cases c3 : s = [100, 105, 118]
  · subst c3
    exact rtwo_div hX h1 h2 hG1.int hG2.int
  by_cases c4 : s = [114, 101, 109]
  · subst c4
    exact rtwo_rem hX h1 h2 hG1.int hG2.int
  by_cases c5 : s = [61, 61]
  · subst c5
    exact rtwo_eq hX h1 h2
  by_cases c6 : s = [47, 61]
  · subst c6
    exact rtwo_ne hX h1 h2
  by_cases c7 : s = [60]
  · subst c7
    exact rtwo_lt hX h1 h2
  by_cases c8 : s = [62]
  · subst c8
    exact rtwo_gt hX h1 h2
  by_cases c9 : s = [61, 60]
  · subst c9
    exact rtwo_le hX h1 h2
  by_cases c10 : s = [62, 61]
  · subst c10
    exact rtwo_ge hX h1 h2
  by_cases c11 : s = [97, 110, 100]
  · subst c11
    exact rtwo_and hX h1 h2
  by_cases c12 : s = [111, 114]
  · subst c12
    exact rtwo_or hX h1 h2
  by_cases c13 : s = [99, 111, 110, 115]
  · subst c13
    exact rtwo_cons hX h1 h2
  by_cases c14 : s = [101, 108, 101, 109, 101, 110, 116]
  · subst c14
    exact rtwo_element hX h1 h2 hG1.int
  by_cases c15 : s = [97, 112, 112, 101, 110, 100]
  · subst c15
    exact rtwo_append hX h1 h2 hG1.parts
  have hno : s ∉ twosN := by simp [twosN, c0, c1, c2, c3, c4, c5, c6, c7, c8, c9, c10, c11, c12, c13, c14, c15]
  rw [twoP_no hno]
  exact rtwo_other hX h1 h2 (fun n hn he => hno (he ▸ hn))
end
end Go.Proofs.YtbpnlpjbjmojfaaGreat
