/- The walks of the reference's Compare, Same, Rows, Check of layer 7 (written by termcmpgen.py). -/
import Derived.Test.YtmpknhdfglbocaaGreatTermS
namespace Go.Proofs.YtmpknhdfglbocaaGreat
open Go.RowKit
set_option linter.unusedVariables false

set_option maxHeartbeats 400000 in
theorem order_any (x y : Bool) (w : World) : Calls Tryz.prog 54 #[.bool x, .bool y] w fun e w' => e = .returned (.int .i64 (if x then -1 else if y then 1 else 0)) ∧ w = w' := by
  cases x <;> cases y
  all_goals
    go_enter Tryz.func54, Tryz.ntmps54
    go_wp2
    go_ret
    exact ⟨rfl, rfl⟩

def cmpI (a b : Int) : Int := if a < b then -1 else if b < a then 1 else 0
def cmpS (s t : List UInt8) : Int := if Op.bytesLess s t then -1 else if s = t then 0 else 1
theorem less_self : ∀ s : List UInt8, Op.bytesLess s s = false
  | [] => rfl
  | a :: s => by simp [Op.bytesLess, less_self s]
/-- Which head is ahead. -/
def headC (k n : Int) (s : List UInt8) (len : Nat) (k' n' : Int) (s' : List UInt8) (len' : Nat) : Int :=
  if cmpI k k' ≠ 0 then cmpI k k' else if cmpI n n' ≠ 0 then cmpI n n' else if cmpS s s' ≠ 0 then cmpS s s' else cmpI len len'
mutual
/-- Which term is ahead. -/
def TV.cmp : TV → TV → Int
  | .mk k n s l, .mk k' n' s' l' => if headC k n s l.length k' n' s' l'.length ≠ 0 then headC k n s l.length k' n' s' l'.length else TV.cmpL l l'
def TV.cmpL : List TV → List TV → Int
  | [], _ => 0
  | _ :: _, [] => 0
  | t :: r, u :: v => if TV.cmp t u ≠ 0 then TV.cmp t u else TV.cmpL r v
end
theorem TV.cmp_eq (a b : TV) : a.cmp b = if headC a.kind a.int a.name a.items.length b.kind b.int b.name b.items.length ≠ 0 then headC a.kind a.int a.name a.items.length b.kind b.int b.name b.items.length else TV.cmpL a.items b.items := by
  cases a; cases b; simp only [TV.cmp, TV.kind, TV.int, TV.name, TV.items]; first | rfl | (split <;> rfl)
theorem cmpL_take : ∀ (l m : List TV) (k : Nat) (h : k < l.length) (h' : k < m.length), TV.cmpL (l.take (k + 1)) (m.take (k + 1)) = if TV.cmpL (l.take k) (m.take k) ≠ 0 then TV.cmpL (l.take k) (m.take k) else l[k].cmp m[k]
  | t :: r, u :: v, 0, _, _ => by
    simp only [List.take_succ_cons, List.take_zero, TV.cmpL, List.getElem_cons_zero]
    split <;> simp_all
  | t :: r, u :: v, k + 1, h, h' => by
    have := cmpL_take r v k (by simpa using h) (by simpa using h')
    simp only [List.take_succ_cons, TV.cmpL, List.getElem_cons_succ] at this ⊢
    by_cases hc : t.cmp u = 0
    · simp only [hc, ne_eq, not_true_eq_false, if_false]
      exact this
    · simp [hc]
  | [], _, _, h, _ => by simp at h
  | _ :: _, [], _, _, h => by simp at h
theorem cmpL_early : ∀ (l m : List TV) (k : Nat), TV.cmpL (l.take k) (m.take k) ≠ 0 → TV.cmpL l m = TV.cmpL (l.take k) (m.take k)
  | [], _, _, h => by simp [TV.cmpL] at h
  | _ :: _, [], k, h => by cases k <;> simp [TV.cmpL] at h
  | t :: r, u :: v, 0, h => by simp [TV.cmpL] at h
  | t :: r, u :: v, k + 1, h => by
    simp only [List.take_succ_cons, TV.cmpL] at h ⊢
    by_cases hc : t.cmp u = 0
    · simp only [hc, ne_eq, not_true_eq_false, if_false] at h ⊢
      exact cmpL_early r v k h
    · simp [hc]
theorem headC_zero {k n : Int} {s : List UInt8} {len : Nat} {k' n' : Int} {s' : List UInt8} {len' : Nat} : headC k n s len k' n' s' len' = 0 ↔ k = k' ∧ n = n' ∧ s = s' ∧ len = len' := by
  have hI : ∀ a b : Int, cmpI a b = 0 ↔ a = b := fun a b => by unfold cmpI; split <;> (try split) <;> omega
  have hS : ∀ a b : List UInt8, cmpS a b = 0 ↔ a = b := fun a b => by
    unfold cmpS
    by_cases e : a = b
    · subst e; simp [less_self]
    · split
      · simp [e]
      · simp [e]
  unfold headC
  by_cases h1 : k = k'
  · rw [if_neg (by rw [ne_eq, hI]; simp [h1])]
    by_cases h2 : n = n'
    · rw [if_neg (by rw [ne_eq, hI]; simp [h2])]
      by_cases h3 : s = s'
      · rw [if_neg (by rw [ne_eq, hS]; simp [h3]), hI]
        simp [h1, h2, h3]
        omega
      · rw [if_pos (by rw [ne_eq, hS]; exact h3), hS]
        simp [h3]
    · rw [if_pos (by rw [ne_eq, hI]; exact h2), hI]
      simp [h2]
  · rw [if_pos (by rw [ne_eq, hI]; exact h1), hI]
    simp [h1]
mutual
theorem TV.cmp_zero : ∀ a b : TV, a.cmp b = 0 ↔ a = b
  | .mk k n s l, .mk k' n' s' l' => by
    simp only [TV.cmp]
    by_cases h : headC k n s l.length k' n' s' l'.length = 0
    · obtain ⟨rfl, rfl, rfl, hl⟩ := headC_zero.1 h
      rw [if_neg (by rw [h]; simp), TV.cmpL_zero l l' hl]
      simp
    · rw [if_pos h]
      constructor
      · exact fun h' => absurd h' h
      · intro e
        injection e with e1 e2 e3 e4
        subst e1 e2 e3 e4
        exact headC_zero.2 ⟨rfl, rfl, rfl, rfl⟩
theorem TV.cmpL_zero : ∀ l m : List TV, l.length = m.length → (TV.cmpL l m = 0 ↔ l = m)
  | [], [], _ => by simp [TV.cmpL]
  | [], _ :: _, h => by simp at h
  | _ :: _, [], h => by simp at h
  | t :: r, u :: v, h => by
    simp only [TV.cmpL]
    have h1 := TV.cmp_zero t u
    have h2 := TV.cmpL_zero r v (by simpa using h)
    by_cases hc : t.cmp u = 0
    · rw [if_neg (by simp [hc]), h2, List.cons.injEq]
      simp [h1.1 hc]
    · rw [if_pos hc, List.cons.injEq]
      constructor
      · exact fun h' => absurd h' hc
      · exact fun ⟨e, _⟩ => absurd (h1.2 e) hc
end
def CmpItem (w0 : World) (l m : List TV) : Prop := ∀ (k : Nat) (h : k < l.length) (h' : k < m.length) (A : Option Addr) (c : Nat) (A' : Option Addr) (c' : Nat) (W' : World), Below w0.heap.size w0 W' → RdM w0 A c l[k].items → RdM w0 A' c' m[k].items →
  Calls Tryz.prog 35 #[.agg #[.int .i64 l[k].kind, .int .i64 l[k].int, .string ⟨l[k].name.toArray⟩, .slice A l[k].items.length c], .agg #[.int .i64 m[k].kind, .int .i64 m[k].int, .string ⟨m[k].name.toArray⟩, .slice A' m[k].items.length c']] W' fun e w' => e = .returned (.int .i64 (l[k].cmp m[k])) ∧ Below W'.heap.size W' w'
def CmpEnds (W : World) (z : Int) (e : Ending) (w' : World) : Prop := e = .returned (.int .i64 z) ∧ Below W.heap.size W w'
/-- The two boxes. -/
structure C2 (W : World) (b1 b2 : Array Value) (V : World) : Prop where
  x : Blk V W.heap.size 35 b1
  y : Blk V (W.heap.size + 1) 35 b2
  bel : Below W.heap.size W V
theorem C2.new (W : World) (b1 b2 : Array Value) : C2 W b1 b2 ((W.alloc (.cells b1 35)).alloc (.cells b2 35)) := by
  refine ⟨(Blk.new W _ _).alloc _, ?_, below_step (below_alloc _ _) (below_alloc _ _)⟩
  have := Blk.new (W.alloc (.cells b1 35)) 35 b2
  simpa using this
theorem C2.keep {W V V' : World} {b1 b2 : Array Value} (h : C2 W b1 b2 V) (hb : Below V.heap.size V V') : C2 W b1 b2 V' := ⟨h.x.keep hb, h.y.keep hb, below_step h.bel hb⟩

set_option maxRecDepth 100000 in
set_option maxHeartbeats 8000000 in
theorem cmp_no (k n : Int) (s : List UInt8) (A : Option Addr) (len c : Nat) (k' n' : Int) (s' : List UInt8) (A' : Option Addr) (len' c' : Nat) (W : World) (hlc : len ≤ 9223372036854775807) (hlc' : len' ≤ 9223372036854775807) (hz : headC k n s len k' n' s' len' ≠ 0) :
    Calls Tryz.prog 35 #[.agg #[.int .i64 k, .int .i64 n, .string ⟨s.toArray⟩, .slice A len c], .agg #[.int .i64 k', .int .i64 n', .string ⟨s'.toArray⟩, .slice A' len' c']] W (CmpEnds W (headC k n s len k' n' s' len')) := by
  have hway : k < k' ∨ k' < k ∨ (k = k' ∧ n < n') ∨ (k = k' ∧ n' < n) ∨ (k = k' ∧ n = n' ∧ Op.bytesLess s s' = true) ∨ (k = k' ∧ n = n' ∧ Op.bytesLess s s' = false ∧ s ≠ s') ∨ (k = k' ∧ n = n' ∧ s = s' ∧ len < len') ∨ (k = k' ∧ n = n' ∧ s = s' ∧ len' < len) := by
    rw [ne_eq, headC_zero] at hz
    rcases Int.lt_trichotomy k k' with h | h | h
    · exact .inl h
    · rcases Int.lt_trichotomy n n' with g | g | g
      · exact .inr (.inr (.inl ⟨h, g⟩))
      · by_cases e : s = s'
        · rcases Nat.lt_trichotomy len len' with f | f | f
          · exact .inr (.inr (.inr (.inr (.inr (.inr (.inl ⟨h, g, e, f⟩))))))
          · exact absurd ⟨h, g, e, f⟩ hz
          · exact .inr (.inr (.inr (.inr (.inr (.inr (.inr ⟨h, g, e, f⟩))))))
        · cases hb : Op.bytesLess s s' with
          | true => exact .inr (.inr (.inr (.inr (.inl ⟨h, g, rfl⟩))))
          | false => exact .inr (.inr (.inr (.inr (.inr (.inl ⟨h, g, rfl, e⟩)))))
      · exact .inr (.inr (.inr (.inl ⟨h, g⟩)))
    · exact .inr (.inl h)
  clear hz
  rcases hway with h1 | h1 | ⟨rfl, h1⟩ | ⟨rfl, h1⟩ | ⟨rfl, rfl, h1⟩ | ⟨rfl, rfl, h1, h2⟩ | ⟨rfl, rfl, rfl, h1⟩ | ⟨rfl, rfl, rfl, h1⟩
  · skip
    have HF := Lib.hid (show headC k n s len k' n' s' len' = -1 by simp [headC, cmpI, h1])
    have d1 : decide (k < k') = true := by simp; omega
    clear h1
    go_enter Tryz.func35, Tryz.ntmps35
    go_upto_region 9 with (go_at_call 54; refine (order_any _ _ _).mono ?_; rintro e w' ⟨rfl, rfl⟩)
    refine wp_world (C2 W #[.int .i64 k, .int .i64 n, .string ⟨s.toArray⟩, .slice A len c] #[.int .i64 k', .int .i64 n', .string ⟨s'.toArray⟩, .slice A' len' c']) (C2.new W _ _) ?_
    intro V hV
    have t3 := hV.x.cell 3
    refine wp_loop_rounds 1 ?_
    rw [rounds_succ]
    by_cases hz : 0 < len
    · have hd9 : decide (0 < (len : Int)) = true := by simp; omega
      go_wp2_with (fail)
      go_ret
      exact ⟨by rw [HF.out]; rfl, hV.bel⟩
    · have hd9 : decide (0 < (len : Int)) = false := by simp; omega
      go_wp2_with (fail)
      go_ret
      exact ⟨by rw [HF.out]; rfl, hV.bel⟩
  · skip
    have HF := Lib.hid (show headC k n s len k' n' s' len' = 1 by simp [headC, cmpI, h1, show ¬ k < k' by omega])
    have d1 : decide (k < k') = false := by simp; omega
    have d2 : decide (k' < k) = true := by simp; omega
    clear h1
    go_enter Tryz.func35, Tryz.ntmps35
    go_upto_region 9 with (go_at_call 54; refine (order_any _ _ _).mono ?_; rintro e w' ⟨rfl, rfl⟩)
    refine wp_world (C2 W #[.int .i64 k, .int .i64 n, .string ⟨s.toArray⟩, .slice A len c] #[.int .i64 k', .int .i64 n', .string ⟨s'.toArray⟩, .slice A' len' c']) (C2.new W _ _) ?_
    intro V hV
    have t3 := hV.x.cell 3
    refine wp_loop_rounds 1 ?_
    rw [rounds_succ]
    by_cases hz : 0 < len
    · have hd9 : decide (0 < (len : Int)) = true := by simp; omega
      go_wp2_with (fail)
      go_ret
      exact ⟨by rw [HF.out]; rfl, hV.bel⟩
    · have hd9 : decide (0 < (len : Int)) = false := by simp; omega
      go_wp2_with (fail)
      go_ret
      exact ⟨by rw [HF.out]; rfl, hV.bel⟩
  · skip
    have HF := Lib.hid (show headC k n s len k n' s' len' = -1 by simp [headC, cmpI, h1])
    have d1 : decide (n < n') = true := by simp; omega
    clear h1
    go_enter Tryz.func35, Tryz.ntmps35
    go_upto_region 9 with (go_at_call 54; refine (order_any _ _ _).mono ?_; rintro e w' ⟨rfl, rfl⟩)
    refine wp_world (C2 W #[.int .i64 k, .int .i64 n, .string ⟨s.toArray⟩, .slice A len c] #[.int .i64 k, .int .i64 n', .string ⟨s'.toArray⟩, .slice A' len' c']) (C2.new W _ _) ?_
    intro V hV
    have t3 := hV.x.cell 3
    refine wp_loop_rounds 1 ?_
    rw [rounds_succ]
    by_cases hz : 0 < len
    · have hd9 : decide (0 < (len : Int)) = true := by simp; omega
      go_wp2_with (fail)
      go_ret
      exact ⟨by rw [HF.out]; rfl, hV.bel⟩
    · have hd9 : decide (0 < (len : Int)) = false := by simp; omega
      go_wp2_with (fail)
      go_ret
      exact ⟨by rw [HF.out]; rfl, hV.bel⟩
  · skip
    have HF := Lib.hid (show headC k n s len k n' s' len' = 1 by simp [headC, cmpI, h1, show ¬ n < n' by omega])
    have d1 : decide (n < n') = false := by simp; omega
    have d2 : decide (n' < n) = true := by simp; omega
    clear h1
    go_enter Tryz.func35, Tryz.ntmps35
    go_upto_region 9 with (go_at_call 54; refine (order_any _ _ _).mono ?_; rintro e w' ⟨rfl, rfl⟩)
    refine wp_world (C2 W #[.int .i64 k, .int .i64 n, .string ⟨s.toArray⟩, .slice A len c] #[.int .i64 k, .int .i64 n', .string ⟨s'.toArray⟩, .slice A' len' c']) (C2.new W _ _) ?_
    intro V hV
    have t3 := hV.x.cell 3
    refine wp_loop_rounds 1 ?_
    rw [rounds_succ]
    by_cases hz : 0 < len
    · have hd9 : decide (0 < (len : Int)) = true := by simp; omega
      go_wp2_with (fail)
      go_ret
      exact ⟨by rw [HF.out]; rfl, hV.bel⟩
    · have hd9 : decide (0 < (len : Int)) = false := by simp; omega
      go_wp2_with (fail)
      go_ret
      exact ⟨by rw [HF.out]; rfl, hV.bel⟩
  · skip
    have HF := Lib.hid (show headC k n s len k n s' len' = -1 by simp [headC, cmpI, cmpS, h1])
    have d1 : Op.bytesLess s s' = true := h1
    clear h1
    go_enter Tryz.func35, Tryz.ntmps35
    go_upto_region 9 with (go_at_call 54; refine (order_any _ _ _).mono ?_; rintro e w' ⟨rfl, rfl⟩)
    refine wp_world (C2 W #[.int .i64 k, .int .i64 n, .string ⟨s.toArray⟩, .slice A len c] #[.int .i64 k, .int .i64 n, .string ⟨s'.toArray⟩, .slice A' len' c']) (C2.new W _ _) ?_
    intro V hV
    have t3 := hV.x.cell 3
    refine wp_loop_rounds 1 ?_
    rw [rounds_succ]
    by_cases hz : 0 < len
    · have hd9 : decide (0 < (len : Int)) = true := by simp; omega
      go_wp2_with (fail)
      go_ret
      exact ⟨by rw [HF.out]; rfl, hV.bel⟩
    · have hd9 : decide (0 < (len : Int)) = false := by simp; omega
      go_wp2_with (fail)
      go_ret
      exact ⟨by rw [HF.out]; rfl, hV.bel⟩
  · skip
    have HF := Lib.hid (show headC k n s len k n s' len' = 1 by simp [headC, cmpI, cmpS, h1, h2])
    have d1 : Op.bytesLess s s' = false := h1
    have d2 : (s == s') = false := by simp [h2]
    have d3 : ¬ s = s' := h2
    clear h1 h2
    go_enter Tryz.func35, Tryz.ntmps35
    go_upto_region 9 with (go_at_call 54; refine (order_any _ _ _).mono ?_; rintro e w' ⟨rfl, rfl⟩)
    refine wp_world (C2 W #[.int .i64 k, .int .i64 n, .string ⟨s.toArray⟩, .slice A len c] #[.int .i64 k, .int .i64 n, .string ⟨s'.toArray⟩, .slice A' len' c']) (C2.new W _ _) ?_
    intro V hV
    have t3 := hV.x.cell 3
    refine wp_loop_rounds 1 ?_
    rw [rounds_succ]
    by_cases hz : 0 < len
    · have hd9 : decide (0 < (len : Int)) = true := by simp; omega
      go_wp2_with (fail)
      go_ret
      exact ⟨by rw [HF.out]; rfl, hV.bel⟩
    · have hd9 : decide (0 < (len : Int)) = false := by simp; omega
      go_wp2_with (fail)
      go_ret
      exact ⟨by rw [HF.out]; rfl, hV.bel⟩
  · skip
    have HF := Lib.hid (show headC k n s len k n s len' = -1 by simp [headC, cmpI, cmpS, less_self, h1])
    have d1 : decide (len < len') = true := by simp; omega
    have d9 : Op.bytesLess s s = false := less_self s
    clear h1
    go_enter Tryz.func35, Tryz.ntmps35
    go_upto_region 9 with (go_at_call 54; refine (order_any _ _ _).mono ?_; rintro e w' ⟨rfl, rfl⟩)
    refine wp_world (C2 W #[.int .i64 k, .int .i64 n, .string ⟨s.toArray⟩, .slice A len c] #[.int .i64 k, .int .i64 n, .string ⟨s.toArray⟩, .slice A' len' c']) (C2.new W _ _) ?_
    intro V hV
    have t3 := hV.x.cell 3
    refine wp_loop_rounds 1 ?_
    rw [rounds_succ]
    by_cases hz : 0 < len
    · have hd9 : decide (0 < (len : Int)) = true := by simp; omega
      go_wp2_with (fail)
      go_ret
      exact ⟨by rw [HF.out]; rfl, hV.bel⟩
    · have hd9 : decide (0 < (len : Int)) = false := by simp; omega
      go_wp2_with (fail)
      go_ret
      exact ⟨by rw [HF.out]; rfl, hV.bel⟩
  · skip
    have HF := Lib.hid (show headC k n s len k n s len' = 1 by simp [headC, cmpI, cmpS, less_self, h1, show ¬ len < len' by omega])
    have d1 : decide (len < len') = false := by simp; omega
    have d2 : decide (len' < len) = true := by simp; omega
    have d9 : Op.bytesLess s s = false := less_self s
    clear h1
    go_enter Tryz.func35, Tryz.ntmps35
    go_upto_region 9 with (go_at_call 54; refine (order_any _ _ _).mono ?_; rintro e w' ⟨rfl, rfl⟩)
    refine wp_world (C2 W #[.int .i64 k, .int .i64 n, .string ⟨s.toArray⟩, .slice A len c] #[.int .i64 k, .int .i64 n, .string ⟨s.toArray⟩, .slice A' len' c']) (C2.new W _ _) ?_
    intro V hV
    have t3 := hV.x.cell 3
    refine wp_loop_rounds 1 ?_
    rw [rounds_succ]
    by_cases hz : 0 < len
    · have hd9 : decide (0 < (len : Int)) = true := by simp; omega
      go_wp2_with (fail)
      go_ret
      exact ⟨by rw [HF.out]; rfl, hV.bel⟩
    · have hd9 : decide (0 < (len : Int)) = false := by simp; omega
      go_wp2_with (fail)
      go_ret
      exact ⟨by rw [HF.out]; rfl, hV.bel⟩

set_option maxRecDepth 100000 in
set_option maxHeartbeats 8000000 in
theorem cmp_yes (k n : Int) (s : List UInt8) (l l' : List TV) (A : Option Addr) (len c : Nat) (A' : Option Addr) (c' : Nat) (w0 W : World) (hlc : len ≤ 9223372036854775807) (hlen : l.length = len) (hlen' : l'.length = len) (hW : Below w0.heap.size w0 W) (hR : RdM w0 A c l) (hR' : RdM w0 A' c' l') (hit : CmpItem w0 l l') :
    Calls Tryz.prog 35 #[.agg #[.int .i64 k, .int .i64 n, .string ⟨s.toArray⟩, .slice A len c], .agg #[.int .i64 k, .int .i64 n, .string ⟨s.toArray⟩, .slice A' len c']] W (CmpEnds W (TV.cmpL l l')) := by
  have HIT := Lib.hid hit
  have HLEN := Lib.hid hlen
  have HLEN' := Lib.hid hlen'
  have d9 : Op.bytesLess s s = false := less_self s
  clear hit hlen hlen'
  go_enter Tryz.func35, Tryz.ntmps35
  go_upto_region 9 with (go_at_call 54; refine (order_any _ _ _).mono ?_; rintro e w' ⟨rfl, rfl⟩)
  refine wp_world (C2 W #[.int .i64 k, .int .i64 n, .string ⟨s.toArray⟩, .slice A len c] #[.int .i64 k, .int .i64 n, .string ⟨s.toArray⟩, .slice A' len c']) (C2.new W _ _) ?_
  intro V hV
  go_loopw [5, 6] (fun v i wr => ∃ j : Nat, j ≤ len ∧ i = .int .i64 j ∧ v = .int .i64 (TV.cmpL (l.take j) (l'.take j)) ∧ C2 W #[.int .i64 k, .int .i64 n, .string ⟨s.toArray⟩, .slice A len c] #[.int .i64 k, .int .i64 n, .string ⟨s.toArray⟩, .slice A' len c'] wr) (fun _ i _ => len - (intOf i).toNat)
  case atStart => exact ⟨0, Nat.zero_le _, rfl, by simp [TV.cmpL], hV⟩
  case round =>
    obtain ⟨j, hj, rfl, rfl, hC⟩ := hrel
    clear hV
    have hbr := below_step hW hC.bel
    have t3 := hC.x.cell 3
    have u3 := hC.y.cell 3
    obtain ⟨z, hz⟩ : ∃ z, TV.cmpL (l.take j) (l'.take j) = z := ⟨_, rfl⟩
    rw [hz]
    by_cases hlt : j < len
    · have hd8 : decide (j < len) = true := by simp; omega
      by_cases hz0 : z = 0
      · subst hz0
        have hkl : j < l.length := by rw [HLEN.out]; exact hlt
        have hkl' : j < l'.length := by rw [HLEN'.out]; exact hlt
        obtain ⟨b, o, A1, c1, rfl, h0, h1, h2, h3, hR1⟩ := hR.item hkl
        obtain ⟨b', o', A2, c2, rfl, g0, g1, g2, g3, hR2⟩ := hR'.item hkl'
        have e0 := (hbr.cell (World.block_lt_of_cell? w0 _ h0)).trans h0
        have e1 := (hbr.cell (World.block_lt_of_cell? w0 _ h1)).trans h1
        have e2 := (hbr.cell (World.block_lt_of_cell? w0 _ h2)).trans h2
        have e3 := (hbr.cell (World.block_lt_of_cell? w0 _ h3)).trans h3
        have f0 := (hbr.cell (World.block_lt_of_cell? w0 _ g0)).trans g0
        have f1 := (hbr.cell (World.block_lt_of_cell? w0 _ g1)).trans g1
        have f2 := (hbr.cell (World.block_lt_of_cell? w0 _ g2)).trans g2
        have f3 := (hbr.cell (World.block_lt_of_cell? w0 _ g3)).trans g3
        have HC := Lib.hid (fun V (h : Below w0.heap.size w0 V) => HIT.out j hkl hkl' A1 c1 A2 c2 V h hR1 hR2)
        have HNX := Lib.hid (show TV.cmpL (l.take (j + 1)) (l'.take (j + 1)) = l[j].cmp l'[j] by rw [cmpL_take l l' j hkl hkl', hz]; simp)
        generalize l[j] = ti at *
        generalize l'[j] = tj at *
        generalize ti.items.length = tl at *
        generalize tj.items.length = tm at *
        have q1 : (0 : Int) ≤ (j : Int) := by omega
        have q2 : (j : Int) < (len : Int) := by omega
        clear h0 h1 h2 h3 g0 g1 g2 g3 hkl hkl' hR1 hR2 hz
        go_upto_region 11 with (fail)
        go_still_tail 10, (by kernel_rfl)
        refine wpList_world (fun V => C2 W #[.int .i64 k, .int .i64 n, .string ⟨s.toArray⟩, .slice (some ⟨b, o, none⟩) len c] #[.int .i64 k, .int .i64 n, .string ⟨s.toArray⟩, .slice (some ⟨b', o', none⟩) len c'] V) (hC.keep (Below.refl _ _).drew) ?_
        intro V2 hC2
        go_wp2_with (go_at_call 35; refine (HC.out _ (below_step hW hC2.bel)).mono ?_; rintro e w5 ⟨rfl, hb5⟩)
        go_roundw
        case rel => exact ⟨j + 1, by omega, by go_num, by rw [HNX.out], hC2.keep hb5⟩
        case measure => simp [intOf]; omega
      · have hd7 : (z == 0) = false := by simp [hz0]
        have HE := Lib.hid (show TV.cmpL l l' = z by rw [cmpL_early l l' j (by rw [hz]; exact hz0), hz])
        clear hz hz0
        go_wp2_with (fail)
        go_ret
        exact ⟨by rw [HE.out]; rfl, hC.bel⟩
    · obtain rfl : j = len := by omega
      have hd8 : decide (j < j) = false := by simp
      rw [List.take_of_length_le (by rw [HLEN.out]; exact Nat.le_refl _), List.take_of_length_le (by rw [HLEN'.out]; exact Nat.le_refl _)] at hz
      have HE := Lib.hid hz
      clear hz
      go_wp2_with (fail)
      go_ret
      exact ⟨by rw [HE.out]; rfl, hC.bel⟩

theorem cmp_any (N : Nat) : ∀ (a b : TV) (A : Option Addr) (c : Nat) (A' : Option Addr) (c' : Nat) (w0 W : World), a.parts ≤ N → Below w0.heap.size w0 W → RdM w0 A c a.items → RdM w0 A' c' b.items →
    Calls Tryz.prog 35 #[.agg #[.int .i64 a.kind, .int .i64 a.int, .string ⟨a.name.toArray⟩, .slice A a.items.length c], .agg #[.int .i64 b.kind, .int .i64 b.int, .string ⟨b.name.toArray⟩, .slice A' b.items.length c']] W fun e w' => e = .returned (.int .i64 (a.cmp b)) ∧ Below W.heap.size W w' := by
  induction N with
  | zero => intro a b A c A' c' w0 W ht; have := a.parts_pos; omega
  | succ N ih =>
    intro a b A c A' c' w0 W ht hW hR hR'
    have hpe := a.parts_eq
    have hlc : a.items.length ≤ 9223372036854775807 := by have := hR.1; have := hR.2.1; omega
    have hlc' : b.items.length ≤ 9223372036854775807 := by have := hR'.1; have := hR'.2.1; omega
    rw [TV.cmp_eq]
    by_cases hz : headC a.kind a.int a.name a.items.length b.kind b.int b.name b.items.length = 0
    · rw [if_neg (by rw [hz]; simp)]
      obtain ⟨e1, e2, e3, e4⟩ := headC_zero.1 hz
      rw [← e1, ← e2, ← e3, ← e4]
      exact cmp_yes a.kind a.int a.name a.items b.items A a.items.length c A' c' w0 W hlc rfl e4.symm hW hR hR' (fun k hk hk' A1 c1 A2 c2 W' hW' hR1 hR2 => ih a.items[k] b.items[k] A1 c1 A2 c2 w0 W' (by have := parts_item a.items k hk; omega) hW' hR1 hR2)
    · rw [if_pos hz]
      exact cmp_no a.kind a.int a.name A a.items.length c b.kind b.int b.name A' b.items.length c' W hlc hlc' hz
end Go.Proofs.YtmpknhdfglbocaaGreat
