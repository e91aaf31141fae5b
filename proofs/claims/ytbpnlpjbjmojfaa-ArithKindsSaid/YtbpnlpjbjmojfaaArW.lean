/- Arith (layer 14): ArithKinds. Written by argenw.py. -/
import Derived.Test.YtbpnlpjbjmojfaaArV
import Derived.Test.YtbpnlpjbjmojfaaOrd
namespace Go.Proofs.Ytbpnlpjbjmojfaa
open Go.RowKit
set_option linter.unusedVariables false

theorem blk_newDrew2 (w : World) (o : Obj) (t : TypeId) (cs : Array Value) : Blk ((w.alloc o).alloc (.cells cs t)).drew (w.heap.size + 1) t cs := (show Blk ((w.alloc o).alloc (.cells cs t)) (w.heap.size + 1) t cs from Blk.newAt (by simp)).keep (Below.refl _ _).drew
theorem blk_newDrew1 (w : World) (o : Obj) (t : TypeId) (cs : Array Value) : Blk ((w.alloc (.cells cs t)).alloc o).drew w.heap.size t cs := ((Blk.new w t cs).alloc o).keep (Below.refl _ _).drew
def kindN : List (List UInt8) := [[105, 115, 95, 105, 110, 116, 101, 103, 101, 114], [105, 115, 95, 97, 116, 111, 109], [105, 115, 95, 112, 105, 100], [105, 115, 95, 114, 101, 102, 101, 114, 101, 110, 99, 101], [105, 115, 95, 102, 117, 110, 99, 116, 105, 111, 110], [105, 115, 95, 116, 117, 112, 108, 101], [105, 115, 95, 108, 105, 115, 116]]
def kindK : List (List Int) := [[1], [2], [5], [3], [4], [6], [7, 8]]
def tstT (t : TV) (i : Nat) : Bool := (kindK.getD i []).contains t.kind
def cntT (t : TV) : Nat → Nat
  | 0 => 0
  | i + 1 => cntT t i + (if tstT t i then 1 else 0)
theorem doK (t : TV) {i : Nat} (h : i < 7) : doP (kindN.getD i []) [t] = (truT (tstT t i), []) := by
  rcases (show i = 0 ∨ i = 1 ∨ i = 2 ∨ i = 3 ∨ i = 4 ∨ i = 5 ∨ i = 6 by omega) with rfl | rfl | rfl | rfl | rfl | rfl | rfl
  all_goals rfl
theorem cnt_le (t : TV) : ∀ i, cntT t i ≤ i
  | 0 => Nat.le_refl _
  | i + 1 => by have := cnt_le t i; unfold cntT; split <;> omega
theorem kind_of {t : TV} (h : checkP [t] = 0) : 1 ≤ t.kind ∧ t.kind ≤ 8 := by
  obtain ⟨h1, h2⟩ := checkP_le h
  simp only [TV.isL, Bool.and_true] at h2
  cases t with
  | mk k n s l =>
    have h3 : headB k n s l.length = true := by simp only [TV.isT, Bool.and_eq_true] at h2; exact h2.1
    show 1 ≤ k ∧ k ≤ 8
    unfold headB at h3
    repeat' split at h3
    all_goals first | omega | simp at h3
theorem cnt_one {t : TV} (h : checkP [t] = 0) : cntT t 7 = 1 := by
  obtain ⟨h1, h2⟩ := kind_of h
  unfold cntT cntT cntT cntT cntT cntT cntT cntT tstT kindK
  rcases (show t.kind = 1 ∨ t.kind = 2 ∨ t.kind = 3 ∨ t.kind = 4 ∨ t.kind = 5 ∨ t.kind = 6 ∨ t.kind = 7 ∨ t.kind = 8 by omega) with e | e | e | e | e | e | e | e
  all_goals rw [e]; rfl
/-- A list's cell is made of its two. -/
theorem cons_of {t : TV} (h : checkP [t] = 0) (hk : t.kind = 8) : tC (t.items.getD 0 tZ) (t.items.getD 1 tZ) = t ∧ t.parts ≤ 4096 := by
  obtain ⟨h1, h2⟩ := checkP_le h
  have hg := (good_of h).cons hk
  simp only [TV.partsL, TV.isL, Nat.add_zero, Bool.and_true] at h1 h2
  refine ⟨?_, h1⟩
  cases t with
  | mk k n s l =>
    have h3 : headB k n s l.length = true := by simp only [TV.isT, Bool.and_eq_true] at h2; exact h2.1
    obtain rfl : k = 8 := hk
    have hl : l.length = 2 := hg
    match l, hl with
    | [a, b], _ =>
      simp [headB] at h3
      obtain ⟨rfl, rfl⟩ := h3
      rfl
theorem cmp_same (t : TV) : t.cmp t = 0 := (TV.cmp_zero t t).2 rfl
theorem item_check {t : TV} (h : checkP [t] = 0) {j : Nat} (hj : j < t.items.length) : checkP [t.items[j]] = 0 := by
  obtain ⟨h1, h2⟩ := checkP_le h
  simp only [TV.partsL, TV.isL, Nat.add_zero, Bool.and_true] at h1 h2
  have hp := parts_item t.items j hj
  rw [t.parts_eq] at h1
  have hi : t.items[j].isT = true := by
    cases hb : t.items[j].isT with
    | true => rfl
    | false =>
      have hf := isL_no t.items j hj hb
      cases t with
      | mk k n s l =>
        simp only [TV.isT, Bool.and_eq_true] at h2
        rw [show TV.isL l = false from hf] at h2
        exact absurd h2.2 (by simp)
  unfold checkP
  rw [if_pos (by simp only [TV.partsL]; omega), if_pos (by simp [TV.isL, hi])]
theorem same_tru (b : Bool) : ((truT b).cmp (tA sTrue) == 0) = b := by cases b <;> rfl
theorem same_fls (b : Bool) : ((truT b).cmp (tA sFalse) == 0) = !b := by cases b <;> rfl
section
variable {w W V V' : World} {u u1 u2 : Value} {t t1 t2 : TV}
/-- The argument's box and the row of names. -/
structure KS (w V : World) (gl : Nat) (cs : Array Value) (t : TV) : Prop where
  bel : Below w.heap.size w V
  box : Blk V w.heap.size 24 cs
  row : Blk V gl 9 (kindN.map (fun s => Value.string ⟨s.toArray⟩)).toArray
  val : TVal V (.agg cs) t
theorem KS.keep {gl : Nat} {cs : Array Value} (h : KS w V gl cs t) (hb : Below V.heap.size V V') : KS w V' gl cs t := ⟨below_step h.bel hb, h.box.keep hb, h.row.keep hb, h.val.below hb⟩
theorem tex_flat {X : Nat → Prop} (h : TVal V u t) (hi : t.items = []) : TEx X V u t := by
  obtain ⟨A, n, c, h1, h2, h3⟩ := h
  exact ⟨A, n, c, h1, h2, by rw [hi]; exact Nat.zero_le _, h3.2.1, by rw [hi]; exact .inl rfl⟩
theorem set_box {wr VA w2 : World} {gz : Nat} {x0 x1 x2 x3 y0 y1 y2 y3 : Value} (hbA : Below wr.heap.size wr VA) (hb2 : Below VA.heap.size VA w2) (hz : Blk w2 gz 24 #[y0, y1, y2, y3]) (hlz : wr.heap.size ≤ gz) (hT : TEx (fun k => k = gz) w2 (.agg #[x0, x1, x2, x3]) t) :
    Below wr.heap.size wr ((((w2.setCell ⟨gz, 0, none⟩ x0).setCell ⟨gz, 1, none⟩ x1).setCell ⟨gz, 2, none⟩ x2).setCell ⟨gz, 3, none⟩ x3) ∧ Blk ((((w2.setCell ⟨gz, 0, none⟩ x0).setCell ⟨gz, 1, none⟩ x1).setCell ⟨gz, 2, none⟩ x2).setCell ⟨gz, 3, none⟩ x3) gz 24 #[x0, x1, x2, x3] ∧ TVal ((((w2.setCell ⟨gz, 0, none⟩ x0).setCell ⟨gz, 1, none⟩ x1).setCell ⟨gz, 2, none⟩ x2).setCell ⟨gz, 3, none⟩ x3) (.agg #[x0, x1, x2, x3]) t :=
  ⟨(below_step hbA hb2).trans ((fr_set4 w2 gz x0 x1 x2 x3).below (below_step hbA hb2).size (fun k hk => by rw [hk]; exact hlz)), hz.set4 x0 x1 x2 x3, (hT.step (fr_set4 w2 gz x0 x1 x2 x3) (fun k _ h => h)).val⟩
theorem one_lval {k n : Int} {s : List UInt8} {A : Option Addr} {m c : Nat} {g : Nat} (hB : Blk V g 24 #[.int .i64 k, .int .i64 n, .string ⟨s.toArray⟩, .slice A m c]) (h : TVal V (.agg #[.int .i64 k, .int .i64 n, .string ⟨s.toArray⟩, .slice A m c]) t) : LVal V (.slice (some ⟨g, 0, none⟩) 1 1) [t] :=
  ⟨_, 1, 1, rfl, rfl, Nat.le_refl _, by omega, .inr ⟨_, _, rfl, by simp only [TV.Row]; exact ⟨tval_at h (hB.cell 0) (hB.cell 1) (hB.cell 2) (hB.cell 3), trivial⟩⟩⟩
theorem do1_c {k n : Int} {s : List UInt8} {A : Option Addr} {m c : Nat} {g : Nat} (hB : Blk V g 24 #[.int .i64 k, .int .i64 n, .string ⟨s.toArray⟩, .slice A m c]) (h : TVal V (.agg #[.int .i64 k, .int .i64 n, .string ⟨s.toArray⟩, .slice A m c]) t) (hG : GoodT t) {name : List UInt8} {r : TV × List UInt8} (hr : doP name [t] = r) (hs : name.length ≤ 1000000) :
    Calls Try.prog 9 #[.string ⟨name.toArray⟩, .slice (some ⟨g, 0, none⟩) 1 1] V (DoEnds V r) := do_c hr hs (one_lval hB h) (by intro t' ht'; rw [List.mem_singleton.1 ht']; exact hG) (by simp)

set_option maxRecDepth 100000 in
set_option maxHeartbeats 4000000 in
theorem kinds_in (t : TV) (A : Option Addr) (n c : Nat) (w : World) (hT : TVal w (.agg #[.int .i64 t.kind, .int .i64 t.int, .string ⟨t.name.toArray⟩, .slice A n c]) t) (hnm : t.named) : Calls Try.prog 6 #[.agg #[.int .i64 t.kind, .int .i64 t.int, .string ⟨t.name.toArray⟩, .slice A n c]] w (Yes w) := by
  have hSM : ∀ V, Below w.heap.size w V → Calls Try.prog 7 #[.slice (some ⟨V.heap.size, 0, none⟩) 1 1, .slice none 0 0] (V.alloc (.cells #[.int .i64 t.kind, .int .i64 t.int, .string ⟨t.name.toArray⟩, .slice A n c] 24)) fun e w' => e = .returned (.bool (smB [t])) ∧ Below V.heap.size V w' := fun V hV => by
    obtain ⟨A', n', c', e, hl, hR⟩ := one_lval (Blk.new V 24 #[.int .i64 t.kind, .int .i64 t.int, .string ⟨t.name.toArray⟩, .slice A n c]) ((hT.below hV).below (below_alloc _ _))
    obtain ⟨rfl, rfl, rfl⟩ := Value.slice.inj e
    exact (small_v [t] _ 1 1 _ rfl (by simp only [TV.namedL]; exact ⟨hnm, trivial⟩) hR).mono fun e w' ⟨he, hb⟩ => ⟨he, below_step (below_alloc _ _) hb⟩
  have HSM := Lib.hid hSM
  have HTV := Lib.hid hT
  clear hSM hT hnm
  by_cases hsm : smB [t] = true
  rotate_left
  · rw [Bool.not_eq_true] at hsm
    rw [hsm] at HSM
    clear hsm
    go_enter Try.func6, Try.ntmps6
    go_upto_region 1 with (fail)
    refine wp_world (fun V => Below w.heap.size w V ∧ Blk V w.heap.size 24 #[.int .i64 t.kind, .int .i64 t.int, .string ⟨t.name.toArray⟩, .slice A n c]) ⟨below_alloc _ _, Blk.new _ _ _⟩ ?_
    rintro V ⟨hV, hB⟩
    have HV := Lib.hid hV
    have HB := Lib.hid hB
    have q0 := hB.cell 0
    have q1 := hB.cell 1
    have q2 := hB.cell 2
    have q3 := hB.cell 3
    clear hV hB
    go_wp2_with (first
      | (go_at_call 7; refine (HSM.out V HV.out).mono ?_; rintro e w1 ⟨rfl, hb1⟩)
      | (go_at_call 8; refine (live_from (below_step HV.out hb1)).mono ?_; rintro e w9 ⟨rfl, hb9⟩))
    go_ret
    exact ⟨rfl, hb9⟩
  have hck := (smB_yes hsm).2.1 t (by simp)
  have HG := Lib.hid (good_of hck)
  have HCK := Lib.hid hck
  rw [hsm] at HSM
  clear hsm hck
  go_enter Try.func6, Try.ntmps6
  go_upto_region 1 with (fail)
  refine wp_world (fun V => Below w.heap.size w V ∧ Blk V w.heap.size 24 #[.int .i64 t.kind, .int .i64 t.int, .string ⟨t.name.toArray⟩, .slice A n c]) ⟨below_alloc _ _, Blk.new _ _ _⟩ ?_
  rintro V ⟨hV, hB⟩
  have HV := Lib.hid hV
  have HB := Lib.hid hB
  have q0 := hB.cell 0
  have q1 := hB.cell 1
  have q2 := hB.cell 2
  have q3 := hB.cell 3
  clear hV hB
  go_upto_region 3 with (go_at_call 7; refine (HSM.out V HV.out).mono ?_; rintro e w1 ⟨rfl, hb1⟩)
  go_upto_region 6 with (fail)
  obtain ⟨gl, hgl⟩ : ∃ g, w1.heap.size = g := ⟨_, rfl⟩
  rw [hgl]
  refine wp_world (fun V => KS w V gl #[.int .i64 t.kind, .int .i64 t.int, .string ⟨t.name.toArray⟩, .slice A n c] t) (by rw [← hgl]; exact ⟨below_step (below_step HV.out hb1) (below_alloc _ _), (HB.out.keep hb1).alloc _, Blk.new _ _ _, ((HTV.out.below HV.out).below hb1).below (below_alloc _ _)⟩) ?_
  intro V1 hV1
  have HK1 := Lib.hid hV1
  clear hV1 hgl hb1 q0 q1 q2 q3
  go_loopw [4, 5] (fun a b wr => ∃ i : Nat, i ≤ 7 ∧ a = .int .i64 (cntT t i : Nat) ∧ b = .int .i64 (i : Nat) ∧ Hid (KS w wr gl #[.int .i64 t.kind, .int .i64 t.int, .string ⟨t.name.toArray⟩, .slice A n c] t)) (fun _ b _ => match b with | .int _ i => 7 - i.toNat | _ => 0)
  case atStart => exact ⟨0, by omega, rfl, rfl, HK1.out⟩
  case round =>
    obtain ⟨i, hi, rfl, rfl, HK⟩ := hrel
    have q0 := HK.out.box.cell 0
    have q1 := HK.out.box.cell 1
    have q2 := HK.out.box.cell 2
    have q3 := HK.out.box.cell 3
    by_cases hi7 : i < 7
    · have hd : decide ((i : Int) < 7) = true := by simp; omega
      have hq1 : (i : Int) < 7 := by omega
      have hq2 : (0 : Int) ≤ (i : Int) := by omega
      obtain ⟨s, hs⟩ : ∃ s, kindN.getD i [] = s := ⟨_, rfl⟩
      have hc : wr.cell? ⟨gl, i, none⟩ = some (.string ⟨s.toArray⟩) := by
        rw [HK.out.row.cell, ← hs]
        have : i < kindN.length := by simpa [kindN] using hi7
        simp [List.getD, this]
      have hsl : s.length ≤ 1000000 := by
        rw [← hs]
        rcases (show i = 0 ∨ i = 1 ∨ i = 2 ∨ i = 3 ∨ i = 4 ∨ i = 5 ∨ i = 6 by omega) with rfl | rfl | rfl | rfl | rfl | rfl | rfl <;> decide
      have hdo := doK t hi7
      rw [hs] at hdo
      obtain ⟨b, hb⟩ : ∃ b, tstT t i = b := ⟨_, rfl⟩
      rw [hb] at hdo
      have HCN := Lib.hid (show cntT t (i + 1) = cntT t i + (if b then 1 else 0) by rw [← hb]; rfl)
      have HCL := Lib.hid (cnt_le t i)
      have HDO : Hid (∀ V' g, Below wr.heap.size wr V' → Blk V' g 24 #[.int .i64 t.kind, .int .i64 t.int, .string ⟨t.name.toArray⟩, .slice A n c] → Calls Try.prog 9 #[.string ⟨s.toArray⟩, .slice (some ⟨g, 0, none⟩) 1 1] V' (DoEnds V' (truT b, []))) := fun V' g h1 h2 => do1_c h2 (HK.out.val.below h1) HG.out hdo hsl
      have hw : wrap64 ((i : Int) + 1) = (i : Int) + 1 := by unfold wrap64; omega
      have hw2 : wrap64 ((cntT t i : Nat) + 1 : Int) = (cntT t i : Nat) + 1 := by have := HCL.out; unfold wrap64; omega
      have HW := Lib.hid hw
      have HW2 := Lib.hid hw2
      obtain ⟨cn, hcn⟩ : ∃ m, cntT t i = m := ⟨_, rfl⟩
      rw [hcn] at HCN HCL HW2 ⊢
      have hlt1 := HK.out.box.lt
      have hlt2 := HK.out.row.lt
      clear hs hdo hsl hb hcn hw hw2
      have HSC : Hid (∀ V, Below wr.heap.size wr V → V.cell? ⟨gl, i, none⟩ = some (.string ⟨s.toArray⟩) ∧ V.cell? ⟨w.heap.size, 0, none⟩ = some (.int .i64 t.kind) ∧ V.cell? ⟨w.heap.size, 1, none⟩ = some (.int .i64 t.int) ∧ V.cell? ⟨w.heap.size, 2, none⟩ = some (.string ⟨t.name.toArray⟩) ∧ V.cell? ⟨w.heap.size, 3, none⟩ = some (.slice A n c)) := fun V hV => ⟨(hV.cell (p := ⟨gl, i, none⟩) HK.out.row.lt).trans hc, (HK.out.box.keep hV).cell 0, (HK.out.box.keep hV).cell 1, (HK.out.box.keep hV).cell 2, (HK.out.box.keep hV).cell 3⟩
      clear hc q0 q1 q2 q3
      go_upto_region 8 with (fail)
      refine wp_region_W 11 (fun V => Below wr.heap.size wr V) (by kernel_rfl) ?_ (fun hS0 => ?_)
      · exact (Below.refl _ _).drew
      (refine wpAnyW_take (i := 0) (v := ?_) rfl (by kernel_rfl) (by kernel_rfl) (by kernel_rfl) (by kernel_rfl) (fun _ _ _ h => h) (Or.inl ⟨by kernel_rfl, ?_⟩) (by assumption) ?_; rotate_left; focus (intro V9 hS9; go_simp; (try (with_reducible rfl)); done))
      try simp only [Act.put, List.getElem_toArray, List.getElem_cons_zero, List.setIfInBounds_toArray, List.set_cons_succ, List.set_cons_zero]
      (refine wpAnyW_take (i := 1) (v := ?_) rfl (by kernel_rfl) (by kernel_rfl) (by kernel_rfl) (by kernel_rfl) (fun _ _ _ h => h) (Or.inl ⟨by kernel_rfl, ?_⟩) (by assumption) ?_; rotate_left; focus (intro V9 hS9; go_simp; (try (with_reducible rfl)); done))
      try simp only [Act.put, List.getElem_toArray, List.getElem_cons_succ, List.getElem_cons_zero, List.setIfInBounds_toArray, List.set_cons_succ, List.set_cons_zero]
      (refine wpAnyW_take (i := 2) (v := ?_) rfl (by kernel_rfl) (by kernel_rfl) (by kernel_rfl) (by kernel_rfl) (fun _ _ _ h => h) (Or.inl ⟨by kernel_rfl, ?_⟩) (by assumption) ?_; rotate_left; focus (intro V9 hS9; go_simp; (try (with_reducible rfl)); done))
      try simp only [Act.put, List.getElem_toArray, List.getElem_cons_succ, List.getElem_cons_zero, List.setIfInBounds_toArray, List.set_cons_succ, List.set_cons_zero]
      (refine wpAnyW_take (i := 3) (v := ?_) rfl (by kernel_rfl) (by kernel_rfl) (by kernel_rfl) (by kernel_rfl) (fun _ _ _ h => h) (Or.inl ⟨by kernel_rfl, ?_⟩) (by assumption) ?_; rotate_left; focus (intro V9 hS9; obtain ⟨g0, g1, g2, g3, g4⟩ := HSC.out V9 hS9; go_simp; (try (with_reducible rfl)); done))
      try simp only [Act.put, List.getElem_toArray, List.getElem_cons_succ, List.getElem_cons_zero, List.setIfInBounds_toArray, List.set_cons_succ, List.set_cons_zero]
      (refine wpAnyW_take (i := 4) (v := ?_) rfl (by kernel_rfl) (by kernel_rfl) (by kernel_rfl) (by kernel_rfl) (fun _ _ _ h => h) (Or.inl ⟨by kernel_rfl, ?_⟩) (by assumption) ?_; rotate_left; focus (intro V9 hS9; obtain ⟨g0, g1, g2, g3, g4⟩ := HSC.out V9 hS9; go_simp; (try (with_reducible rfl)); done))
      try simp only [Act.put, List.getElem_toArray, List.getElem_cons_succ, List.getElem_cons_zero, List.setIfInBounds_toArray, List.set_cons_succ, List.set_cons_zero]
      refine wpAnyW_ready (rs := [5, 10]) (by kernel_rfl) (by simp) ?_
      refine AllReadyW.cons rfl (fun K hK => ?_) (AllReadyW.cons rfl (fun K hK => ?_) AllReadyW.nil)
      · skip
        go_simp
        refine hK.out _ _ (below_step (Below.refl wr.heap.size wr).drew (below_alloc _ _)) (fun _ => ?_)
        clear hK K
        try simp only [Act.put, List.getElem_toArray, List.getElem_cons_succ, List.getElem_cons_zero, List.setIfInBounds_toArray, List.set_cons_succ, List.set_cons_zero]
        refine wpAnyW_world (fun V => Below wr.heap.size wr V ∧ Blk V wr.heap.size 24 #[.int .i64 t.kind, .int .i64 t.int, .string ⟨t.name.toArray⟩, .slice A n c] ∧ V.heap.size = wr.heap.size + 1) ⟨below_step (Below.refl wr.heap.size wr).drew (below_alloc _ _), Blk.new wr.drew _ _, by simp⟩ ?_
        rintro VA ⟨hbA, hkA, hsA⟩
        have HSA := Lib.hid hsA
        clear hsA
        refine wpAnyW_ready (rs := [6, 10]) (by kernel_rfl) (by simp) ?_
        refine AllReadyW.cons rfl (fun K hK => ?_) (AllReadyW.cons rfl (fun K hK => ?_) AllReadyW.nil)
        · go_simp
          refine (HDO.out _ _ hbA hkA).mono ?_
          rintro e w2 ⟨u, rfl, hT2, hb2⟩
          obtain ⟨A6, n6, c6, rfl, hn6⟩ := hT2.form
          clear hn6
          refine hK.out _ _ (below_step hbA hb2) (fun _ => ?_)
          clear hK K
          (refine wpAnyW_take (i := 7) (v := ?_) rfl (by kernel_rfl) (by kernel_rfl) (by kernel_rfl) (by kernel_rfl) (fun _ _ _ h => h) (Or.inl ⟨by kernel_rfl, ?_⟩) (by assumption) ?_; rotate_left; focus (intro V9 hS9; go_simp; (try (with_reducible rfl)); done))
          try simp only [Act.put, List.getElem_toArray, List.getElem_cons_succ, List.getElem_cons_zero, List.setIfInBounds_toArray, List.set_cons_succ, List.set_cons_zero]
          (refine wpAnyW_take (i := 8) (v := ?_) rfl (by kernel_rfl) (by kernel_rfl) (by kernel_rfl) (by kernel_rfl) (fun _ _ _ h => h) (Or.inl ⟨by kernel_rfl, ?_⟩) (by assumption) ?_; rotate_left; focus (intro V9 hS9; go_simp; (try (with_reducible rfl)); done))
          try simp only [Act.put, List.getElem_toArray, List.getElem_cons_succ, List.getElem_cons_zero, List.setIfInBounds_toArray, List.set_cons_succ, List.set_cons_zero]
          refine wpAnyW_ready (rs := [9, 10]) (by kernel_rfl) (by simp) ?_
          refine AllReadyW.cons rfl (fun K hK => ?_) (AllReadyW.cons rfl (fun K hK => ?_) AllReadyW.nil)
          · skip
            go_simp
            refine hK.out _ _ (below_step hbA hb2) (fun _ => ?_)
            clear hK K
            try simp only [Act.put, List.getElem_toArray, List.getElem_cons_succ, List.getElem_cons_zero, List.setIfInBounds_toArray, List.set_cons_succ, List.set_cons_zero]
            refine wpAnyW_ready (rs := [10]) (by kernel_rfl) (by simp) ?_
            refine AllReadyW.cons rfl (fun K hK => ?_) AllReadyW.nil
            go_simp
            refine hK.out _ _ (below_step (below_step hbA hb2) (below_alloc _ _)) (fun _ => ?_)
            clear hK K
            try simp only [Act.put, List.getElem_toArray, List.getElem_cons_succ, List.getElem_cons_zero, List.setIfInBounds_toArray, List.set_cons_succ, List.set_cons_zero]
            refine wpAnyW_ready (rs := [11]) (by kernel_rfl) (by simp) ?_
            refine AllReadyW.consE rfl (by kernel_rfl) (fun K hK => ?_) AllReadyW.nil
            go_simp
            refine hK.out _ _ ?_
            clear hK K
            try simp only [Act.put, List.getElem_toArray, List.getElem_cons_succ, List.getElem_cons_zero, List.setIfInBounds_toArray, List.set_cons_succ, List.set_cons_zero]
            refine wpAnyW_ready (rs := [12]) (by kernel_rfl) (by simp) ?_
            refine AllReadyW.consE rfl (by kernel_rfl) (fun K hK => ?_) AllReadyW.nil
            go_simp
            refine hK.out _ _ ?_
            clear hK K
            try simp only [Act.put, List.getElem_toArray, List.getElem_cons_succ, List.getElem_cons_zero, List.setIfInBounds_toArray, List.set_cons_succ, List.set_cons_zero]
            refine wpAnyW_done (by kernel_rfl) ?_ _
            go_upto_region 9 with (fail)
            obtain ⟨g6, hg6⟩ : ∃ g, w2.heap.size = g := ⟨_, rfl⟩
            rw [hg6]
            refine wp_world (fun V => Below wr.heap.size wr V ∧ Blk V g6 24 #[.int .i64 2, .int .i64 0, .string ⟨(if b then sTrue else sFalse).toArray⟩, .slice A6 n6 c6] ∧ TVal V (.agg #[.int .i64 2, .int .i64 0, .string ⟨(if b then sTrue else sFalse).toArray⟩, .slice A6 n6 c6]) (truT b)) (by rw [← hg6]; exact ⟨below_step (below_step hbA hb2) (below_alloc _ _), Blk.new _ _ _, hT2.below (below_alloc _ _)⟩) ?_
            clear hg6 hbA hkA HSA hT2 hb2
            rintro V3 ⟨hb3, hk3, hT3⟩
            have HK3 := Lib.hid (HK.out.keep hb3)
            have HBK := Lib.hid hk3
            have HT3 := Lib.hid hT3
            have H00 : Hid (Below V3.heap.size V3 V3.drew) := (Below.refl _ _).drew
            clear hb3 hk3 hT3
            cases b with
            | true =>
              have HKP : Hid (∀ V, Below V3.heap.size V3 V → (V.cell? ⟨g6, 0, none⟩ = some (.int .i64 2) ∧ V.cell? ⟨g6, 1, none⟩ = some (.int .i64 0) ∧ V.cell? ⟨g6, 2, none⟩ = some (.string ⟨(sTrue).toArray⟩) ∧ V.cell? ⟨g6, 3, none⟩ = some (.slice A6 n6 c6)) ∧ Below V3.heap.size V3 V) := fun V hb => ⟨⟨(HBK.out.keep hb).cell 0, (HBK.out.keep hb).cell 1, (HBK.out.keep hb).cell 2, (HBK.out.keep hb).cell 3⟩, hb⟩
              have HS1 : Hid (∀ V, Below V3.heap.size V3 V → Calls Try.prog 11 #[.agg #[.int .i64 2, .int .i64 0, .string ⟨(sTrue).toArray⟩, .slice A6 n6 c6], .agg #[.int .i64 2, .int .i64 0, .string ⟨sTrue.toArray⟩, .slice none 0 0]] V fun e w' => e = .returned (.bool true) ∧ Below V.heap.size V w') := fun V hb => (same_v (HT3.out.below hb) (tval_a V sTrue)).mono (by rintro e w' ⟨rfl, h⟩; exact ⟨by rw [same_tru], h⟩)
              go_upto_region 11 with (fail)
              go_region_held3 (fun V => (V.cell? ⟨g6, 0, none⟩ = some (.int .i64 2) ∧ V.cell? ⟨g6, 1, none⟩ = some (.int .i64 0) ∧ V.cell? ⟨g6, 2, none⟩ = some (.string ⟨(sTrue).toArray⟩) ∧ V.cell? ⟨g6, 3, none⟩ = some (.slice A6 n6 c6)) ∧ Below V3.heap.size V3 V) (first | exact HKP.out _ H00.out | exact HKP.out _ (by assumption) | assumption) ((first
                | (go_at_call 17; refine (tatom_v _ _).mono ?_; rintro r V9 ⟨rfl, hb9⟩; have hP9 : Below V3.heap.size V3 V9 := below_step (And.right (by assumption)) hb9; clear hb9)
                | (go_at_call 11; refine (HS1.out _ (And.right (by assumption))).mono ?_; rintro r V9 ⟨rfl, hb9⟩; have hP9 : Below V3.heap.size V3 V9 := below_step (And.right (by assumption)) hb9; clear hb9)))
              rename_i hHeld9
              have hH9 := hHeld9.2
              clear hHeld9
              have hw := HW.out
              have hw2 := HW2.out
              go_wp2
              go_roundw
              case rel => exact ⟨i + 1, by omega, by rw [HCN.out]; simp [hw2], by simp, HK3.out.keep hH9⟩
              case measure => simp; omega
            | false =>
              have HKP : Hid (∀ V, Below V3.heap.size V3 V → (V.cell? ⟨g6, 0, none⟩ = some (.int .i64 2) ∧ V.cell? ⟨g6, 1, none⟩ = some (.int .i64 0) ∧ V.cell? ⟨g6, 2, none⟩ = some (.string ⟨(sFalse).toArray⟩) ∧ V.cell? ⟨g6, 3, none⟩ = some (.slice A6 n6 c6)) ∧ Below V3.heap.size V3 V) := fun V hb => ⟨⟨(HBK.out.keep hb).cell 0, (HBK.out.keep hb).cell 1, (HBK.out.keep hb).cell 2, (HBK.out.keep hb).cell 3⟩, hb⟩
              have HS1 : Hid (∀ V, Below V3.heap.size V3 V → Calls Try.prog 11 #[.agg #[.int .i64 2, .int .i64 0, .string ⟨(sFalse).toArray⟩, .slice A6 n6 c6], .agg #[.int .i64 2, .int .i64 0, .string ⟨sTrue.toArray⟩, .slice none 0 0]] V fun e w' => e = .returned (.bool false) ∧ Below V.heap.size V w') := fun V hb => (same_v (HT3.out.below hb) (tval_a V sTrue)).mono (by rintro e w' ⟨rfl, h⟩; exact ⟨by rw [same_tru], h⟩)
              have HS2 : Hid (∀ V, Below V3.heap.size V3 V → Calls Try.prog 11 #[.agg #[.int .i64 2, .int .i64 0, .string ⟨(sFalse).toArray⟩, .slice A6 n6 c6], .agg #[.int .i64 2, .int .i64 0, .string ⟨sFalse.toArray⟩, .slice none 0 0]] V fun e w' => e = .returned (.bool true) ∧ Below V.heap.size V w') := fun V hb => (same_v (HT3.out.below hb) (tval_a V sFalse)).mono (by rintro e w' ⟨rfl, h⟩; exact ⟨by rw [same_fls]; rfl, h⟩)
              go_upto_region 11 with (fail)
              go_region_held3 (fun V => (V.cell? ⟨g6, 0, none⟩ = some (.int .i64 2) ∧ V.cell? ⟨g6, 1, none⟩ = some (.int .i64 0) ∧ V.cell? ⟨g6, 2, none⟩ = some (.string ⟨(sFalse).toArray⟩) ∧ V.cell? ⟨g6, 3, none⟩ = some (.slice A6 n6 c6)) ∧ Below V3.heap.size V3 V) (first | exact HKP.out _ H00.out | exact HKP.out _ (by assumption) | assumption) ((first
                | (go_at_call 17; refine (tatom_v _ _).mono ?_; rintro r V9 ⟨rfl, hb9⟩; have hP9 : Below V3.heap.size V3 V9 := below_step (And.right (by assumption)) hb9; clear hb9)
                | (go_at_call 11; refine (HS1.out _ (And.right (by assumption))).mono ?_; rintro r V9 ⟨rfl, hb9⟩; have hP9 : Below V3.heap.size V3 V9 := below_step (And.right (by assumption)) hb9; clear hb9)))
              rename_i hHeld9
              have hH9 := hHeld9.2
              clear hHeld9
              have H01 := Lib.hid hH9.drew
              clear hH9
              go_upto_region 13 with (fail)
              go_region_held3 (fun V => (V.cell? ⟨g6, 0, none⟩ = some (.int .i64 2) ∧ V.cell? ⟨g6, 1, none⟩ = some (.int .i64 0) ∧ V.cell? ⟨g6, 2, none⟩ = some (.string ⟨(sFalse).toArray⟩) ∧ V.cell? ⟨g6, 3, none⟩ = some (.slice A6 n6 c6)) ∧ Below V3.heap.size V3 V) (first | exact HKP.out _ H01.out | exact HKP.out _ (by assumption) | assumption) ((first
                | (go_at_call 17; refine (tatom_v _ _).mono ?_; rintro r V9 ⟨rfl, hb9⟩; have hP9 : Below V3.heap.size V3 V9 := below_step (And.right (by assumption)) hb9; clear hb9)
                | (go_at_call 11; refine (HS2.out _ (And.right (by assumption))).mono ?_; rintro r V9 ⟨rfl, hb9⟩; have hP9 : Below V3.heap.size V3 V9 := below_step (And.right (by assumption)) hb9; clear hb9)))
              rename_i hHeld9
              have hH9 := hHeld9.2
              clear hHeld9
              have hw := HW.out
              go_wp2
              go_roundw
              case rel => exact ⟨i + 1, by omega, by rw [HCN.out]; simp, by simp, HK3.out.keep hH9⟩
              case measure => simp; omega
          · skip
            go_simp
            refine hK.out _ _ (below_step (below_step hbA hb2) (below_alloc _ _)) (fun _ => ?_)
            clear hK K
            try simp only [Act.put, List.getElem_toArray, List.getElem_cons_succ, List.getElem_cons_zero, List.setIfInBounds_toArray, List.set_cons_succ, List.set_cons_zero]
            refine wpAnyW_ready (rs := [9, 11]) (by kernel_rfl) (by simp) ?_
            refine AllReadyW.cons rfl (fun K hK => ?_) (AllReadyW.consE rfl (by kernel_rfl) (fun K hK => ?_) AllReadyW.nil)
            · skip
              go_simp
              refine hK.out _ _ (below_step (below_step hbA hb2) (below_alloc _ _)) (fun _ => ?_)
              clear hK K
              try simp only [Act.put, List.getElem_toArray, List.getElem_cons_succ, List.getElem_cons_zero, List.setIfInBounds_toArray, List.set_cons_succ, List.set_cons_zero]
              refine wpAnyW_ready (rs := [11]) (by kernel_rfl) (by simp) ?_
              refine AllReadyW.consE rfl (by kernel_rfl) (fun K hK => ?_) AllReadyW.nil
              go_simp
              refine hK.out _ _ ?_
              clear hK K
              try simp only [Act.put, List.getElem_toArray, List.getElem_cons_succ, List.getElem_cons_zero, List.setIfInBounds_toArray, List.set_cons_succ, List.set_cons_zero]
              refine wpAnyW_ready (rs := [12]) (by kernel_rfl) (by simp) ?_
              refine AllReadyW.consE rfl (by kernel_rfl) (fun K hK => ?_) AllReadyW.nil
              go_simp
              refine hK.out _ _ ?_
              clear hK K
              try simp only [Act.put, List.getElem_toArray, List.getElem_cons_succ, List.getElem_cons_zero, List.setIfInBounds_toArray, List.set_cons_succ, List.set_cons_zero]
              refine wpAnyW_done (by kernel_rfl) ?_ _
              go_upto_region 9 with (fail)
              obtain ⟨g6, hg6⟩ : ∃ g, w2.heap.size = g := ⟨_, rfl⟩
              rw [hg6]
              refine wp_world (fun V => Below wr.heap.size wr V ∧ Blk V g6 24 #[.int .i64 2, .int .i64 0, .string ⟨(if b then sTrue else sFalse).toArray⟩, .slice A6 n6 c6] ∧ TVal V (.agg #[.int .i64 2, .int .i64 0, .string ⟨(if b then sTrue else sFalse).toArray⟩, .slice A6 n6 c6]) (truT b)) (by rw [← hg6]; exact ⟨below_step (below_step hbA hb2) (below_alloc _ _), Blk.new _ _ _, hT2.below (below_alloc _ _)⟩) ?_
              clear hg6 hbA hkA HSA hT2 hb2
              rintro V3 ⟨hb3, hk3, hT3⟩
              have HK3 := Lib.hid (HK.out.keep hb3)
              have HBK := Lib.hid hk3
              have HT3 := Lib.hid hT3
              have H00 : Hid (Below V3.heap.size V3 V3.drew) := (Below.refl _ _).drew
              clear hb3 hk3 hT3
              cases b with
              | true =>
                have HKP : Hid (∀ V, Below V3.heap.size V3 V → (V.cell? ⟨g6, 0, none⟩ = some (.int .i64 2) ∧ V.cell? ⟨g6, 1, none⟩ = some (.int .i64 0) ∧ V.cell? ⟨g6, 2, none⟩ = some (.string ⟨(sTrue).toArray⟩) ∧ V.cell? ⟨g6, 3, none⟩ = some (.slice A6 n6 c6)) ∧ Below V3.heap.size V3 V) := fun V hb => ⟨⟨(HBK.out.keep hb).cell 0, (HBK.out.keep hb).cell 1, (HBK.out.keep hb).cell 2, (HBK.out.keep hb).cell 3⟩, hb⟩
                have HS1 : Hid (∀ V, Below V3.heap.size V3 V → Calls Try.prog 11 #[.agg #[.int .i64 2, .int .i64 0, .string ⟨(sTrue).toArray⟩, .slice A6 n6 c6], .agg #[.int .i64 2, .int .i64 0, .string ⟨sTrue.toArray⟩, .slice none 0 0]] V fun e w' => e = .returned (.bool true) ∧ Below V.heap.size V w') := fun V hb => (same_v (HT3.out.below hb) (tval_a V sTrue)).mono (by rintro e w' ⟨rfl, h⟩; exact ⟨by rw [same_tru], h⟩)
                go_upto_region 11 with (fail)
                go_region_held3 (fun V => (V.cell? ⟨g6, 0, none⟩ = some (.int .i64 2) ∧ V.cell? ⟨g6, 1, none⟩ = some (.int .i64 0) ∧ V.cell? ⟨g6, 2, none⟩ = some (.string ⟨(sTrue).toArray⟩) ∧ V.cell? ⟨g6, 3, none⟩ = some (.slice A6 n6 c6)) ∧ Below V3.heap.size V3 V) (first | exact HKP.out _ H00.out | exact HKP.out _ (by assumption) | assumption) ((first
                  | (go_at_call 17; refine (tatom_v _ _).mono ?_; rintro r V9 ⟨rfl, hb9⟩; have hP9 : Below V3.heap.size V3 V9 := below_step (And.right (by assumption)) hb9; clear hb9)
                  | (go_at_call 11; refine (HS1.out _ (And.right (by assumption))).mono ?_; rintro r V9 ⟨rfl, hb9⟩; have hP9 : Below V3.heap.size V3 V9 := below_step (And.right (by assumption)) hb9; clear hb9)))
                rename_i hHeld9
                have hH9 := hHeld9.2
                clear hHeld9
                have hw := HW.out
                have hw2 := HW2.out
                go_wp2
                go_roundw
                case rel => exact ⟨i + 1, by omega, by rw [HCN.out]; simp [hw2], by simp, HK3.out.keep hH9⟩
                case measure => simp; omega
              | false =>
                have HKP : Hid (∀ V, Below V3.heap.size V3 V → (V.cell? ⟨g6, 0, none⟩ = some (.int .i64 2) ∧ V.cell? ⟨g6, 1, none⟩ = some (.int .i64 0) ∧ V.cell? ⟨g6, 2, none⟩ = some (.string ⟨(sFalse).toArray⟩) ∧ V.cell? ⟨g6, 3, none⟩ = some (.slice A6 n6 c6)) ∧ Below V3.heap.size V3 V) := fun V hb => ⟨⟨(HBK.out.keep hb).cell 0, (HBK.out.keep hb).cell 1, (HBK.out.keep hb).cell 2, (HBK.out.keep hb).cell 3⟩, hb⟩
                have HS1 : Hid (∀ V, Below V3.heap.size V3 V → Calls Try.prog 11 #[.agg #[.int .i64 2, .int .i64 0, .string ⟨(sFalse).toArray⟩, .slice A6 n6 c6], .agg #[.int .i64 2, .int .i64 0, .string ⟨sTrue.toArray⟩, .slice none 0 0]] V fun e w' => e = .returned (.bool false) ∧ Below V.heap.size V w') := fun V hb => (same_v (HT3.out.below hb) (tval_a V sTrue)).mono (by rintro e w' ⟨rfl, h⟩; exact ⟨by rw [same_tru], h⟩)
                have HS2 : Hid (∀ V, Below V3.heap.size V3 V → Calls Try.prog 11 #[.agg #[.int .i64 2, .int .i64 0, .string ⟨(sFalse).toArray⟩, .slice A6 n6 c6], .agg #[.int .i64 2, .int .i64 0, .string ⟨sFalse.toArray⟩, .slice none 0 0]] V fun e w' => e = .returned (.bool true) ∧ Below V.heap.size V w') := fun V hb => (same_v (HT3.out.below hb) (tval_a V sFalse)).mono (by rintro e w' ⟨rfl, h⟩; exact ⟨by rw [same_fls]; rfl, h⟩)
                go_upto_region 11 with (fail)
                go_region_held3 (fun V => (V.cell? ⟨g6, 0, none⟩ = some (.int .i64 2) ∧ V.cell? ⟨g6, 1, none⟩ = some (.int .i64 0) ∧ V.cell? ⟨g6, 2, none⟩ = some (.string ⟨(sFalse).toArray⟩) ∧ V.cell? ⟨g6, 3, none⟩ = some (.slice A6 n6 c6)) ∧ Below V3.heap.size V3 V) (first | exact HKP.out _ H00.out | exact HKP.out _ (by assumption) | assumption) ((first
                  | (go_at_call 17; refine (tatom_v _ _).mono ?_; rintro r V9 ⟨rfl, hb9⟩; have hP9 : Below V3.heap.size V3 V9 := below_step (And.right (by assumption)) hb9; clear hb9)
                  | (go_at_call 11; refine (HS1.out _ (And.right (by assumption))).mono ?_; rintro r V9 ⟨rfl, hb9⟩; have hP9 : Below V3.heap.size V3 V9 := below_step (And.right (by assumption)) hb9; clear hb9)))
                rename_i hHeld9
                have hH9 := hHeld9.2
                clear hHeld9
                have H01 := Lib.hid hH9.drew
                clear hH9
                go_upto_region 13 with (fail)
                go_region_held3 (fun V => (V.cell? ⟨g6, 0, none⟩ = some (.int .i64 2) ∧ V.cell? ⟨g6, 1, none⟩ = some (.int .i64 0) ∧ V.cell? ⟨g6, 2, none⟩ = some (.string ⟨(sFalse).toArray⟩) ∧ V.cell? ⟨g6, 3, none⟩ = some (.slice A6 n6 c6)) ∧ Below V3.heap.size V3 V) (first | exact HKP.out _ H01.out | exact HKP.out _ (by assumption) | assumption) ((first
                  | (go_at_call 17; refine (tatom_v _ _).mono ?_; rintro r V9 ⟨rfl, hb9⟩; have hP9 : Below V3.heap.size V3 V9 := below_step (And.right (by assumption)) hb9; clear hb9)
                  | (go_at_call 11; refine (HS2.out _ (And.right (by assumption))).mono ?_; rintro r V9 ⟨rfl, hb9⟩; have hP9 : Below V3.heap.size V3 V9 := below_step (And.right (by assumption)) hb9; clear hb9)))
                rename_i hHeld9
                have hH9 := hHeld9.2
                clear hHeld9
                have hw := HW.out
                go_wp2
                go_roundw
                case rel => exact ⟨i + 1, by omega, by rw [HCN.out]; simp, by simp, HK3.out.keep hH9⟩
                case measure => simp; omega
            · skip
              go_simp
              refine hK.out _ _ ?_
              clear hK K
              try simp only [Act.put, List.getElem_toArray, List.getElem_cons_succ, List.getElem_cons_zero, List.setIfInBounds_toArray, List.set_cons_succ, List.set_cons_zero]
              refine wpAnyW_ready (rs := [9]) (by kernel_rfl) (by simp) ?_
              refine AllReadyW.consE rfl (by kernel_rfl) (fun K hK => ?_) AllReadyW.nil
              go_simp
              refine hK.out _ _ ?_
              clear hK K
              try simp only [Act.put, List.getElem_toArray, List.getElem_cons_succ, List.getElem_cons_zero, List.setIfInBounds_toArray, List.set_cons_succ, List.set_cons_zero]
              refine wpAnyW_ready (rs := [12]) (by kernel_rfl) (by simp) ?_
              refine AllReadyW.consE rfl (by kernel_rfl) (fun K hK => ?_) AllReadyW.nil
              go_simp
              refine hK.out _ _ ?_
              clear hK K
              try simp only [Act.put, List.getElem_toArray, List.getElem_cons_succ, List.getElem_cons_zero, List.setIfInBounds_toArray, List.set_cons_succ, List.set_cons_zero]
              refine wpAnyW_done (by kernel_rfl) ?_ _
              go_upto_region 9 with (fail)
              obtain ⟨g6, hg6⟩ : ∃ g, w2.heap.size = g := ⟨_, rfl⟩
              rw [hg6]
              refine wp_world (fun V => Below wr.heap.size wr V ∧ Blk V g6 24 #[.int .i64 2, .int .i64 0, .string ⟨(if b then sTrue else sFalse).toArray⟩, .slice A6 n6 c6] ∧ TVal V (.agg #[.int .i64 2, .int .i64 0, .string ⟨(if b then sTrue else sFalse).toArray⟩, .slice A6 n6 c6]) (truT b)) (by rw [← hg6]; exact ⟨below_step (below_step hbA hb2) (below_alloc _ _), Blk.new _ _ _, hT2.below (below_alloc _ _)⟩) ?_
              clear hg6 hbA hkA HSA hT2 hb2
              rintro V3 ⟨hb3, hk3, hT3⟩
              have HK3 := Lib.hid (HK.out.keep hb3)
              have HBK := Lib.hid hk3
              have HT3 := Lib.hid hT3
              have H00 : Hid (Below V3.heap.size V3 V3.drew) := (Below.refl _ _).drew
              clear hb3 hk3 hT3
              cases b with
              | true =>
                have HKP : Hid (∀ V, Below V3.heap.size V3 V → (V.cell? ⟨g6, 0, none⟩ = some (.int .i64 2) ∧ V.cell? ⟨g6, 1, none⟩ = some (.int .i64 0) ∧ V.cell? ⟨g6, 2, none⟩ = some (.string ⟨(sTrue).toArray⟩) ∧ V.cell? ⟨g6, 3, none⟩ = some (.slice A6 n6 c6)) ∧ Below V3.heap.size V3 V) := fun V hb => ⟨⟨(HBK.out.keep hb).cell 0, (HBK.out.keep hb).cell 1, (HBK.out.keep hb).cell 2, (HBK.out.keep hb).cell 3⟩, hb⟩
                have HS1 : Hid (∀ V, Below V3.heap.size V3 V → Calls Try.prog 11 #[.agg #[.int .i64 2, .int .i64 0, .string ⟨(sTrue).toArray⟩, .slice A6 n6 c6], .agg #[.int .i64 2, .int .i64 0, .string ⟨sTrue.toArray⟩, .slice none 0 0]] V fun e w' => e = .returned (.bool true) ∧ Below V.heap.size V w') := fun V hb => (same_v (HT3.out.below hb) (tval_a V sTrue)).mono (by rintro e w' ⟨rfl, h⟩; exact ⟨by rw [same_tru], h⟩)
                go_upto_region 11 with (fail)
                go_region_held3 (fun V => (V.cell? ⟨g6, 0, none⟩ = some (.int .i64 2) ∧ V.cell? ⟨g6, 1, none⟩ = some (.int .i64 0) ∧ V.cell? ⟨g6, 2, none⟩ = some (.string ⟨(sTrue).toArray⟩) ∧ V.cell? ⟨g6, 3, none⟩ = some (.slice A6 n6 c6)) ∧ Below V3.heap.size V3 V) (first | exact HKP.out _ H00.out | exact HKP.out _ (by assumption) | assumption) ((first
                  | (go_at_call 17; refine (tatom_v _ _).mono ?_; rintro r V9 ⟨rfl, hb9⟩; have hP9 : Below V3.heap.size V3 V9 := below_step (And.right (by assumption)) hb9; clear hb9)
                  | (go_at_call 11; refine (HS1.out _ (And.right (by assumption))).mono ?_; rintro r V9 ⟨rfl, hb9⟩; have hP9 : Below V3.heap.size V3 V9 := below_step (And.right (by assumption)) hb9; clear hb9)))
                rename_i hHeld9
                have hH9 := hHeld9.2
                clear hHeld9
                have hw := HW.out
                have hw2 := HW2.out
                go_wp2
                go_roundw
                case rel => exact ⟨i + 1, by omega, by rw [HCN.out]; simp [hw2], by simp, HK3.out.keep hH9⟩
                case measure => simp; omega
              | false =>
                have HKP : Hid (∀ V, Below V3.heap.size V3 V → (V.cell? ⟨g6, 0, none⟩ = some (.int .i64 2) ∧ V.cell? ⟨g6, 1, none⟩ = some (.int .i64 0) ∧ V.cell? ⟨g6, 2, none⟩ = some (.string ⟨(sFalse).toArray⟩) ∧ V.cell? ⟨g6, 3, none⟩ = some (.slice A6 n6 c6)) ∧ Below V3.heap.size V3 V) := fun V hb => ⟨⟨(HBK.out.keep hb).cell 0, (HBK.out.keep hb).cell 1, (HBK.out.keep hb).cell 2, (HBK.out.keep hb).cell 3⟩, hb⟩
                have HS1 : Hid (∀ V, Below V3.heap.size V3 V → Calls Try.prog 11 #[.agg #[.int .i64 2, .int .i64 0, .string ⟨(sFalse).toArray⟩, .slice A6 n6 c6], .agg #[.int .i64 2, .int .i64 0, .string ⟨sTrue.toArray⟩, .slice none 0 0]] V fun e w' => e = .returned (.bool false) ∧ Below V.heap.size V w') := fun V hb => (same_v (HT3.out.below hb) (tval_a V sTrue)).mono (by rintro e w' ⟨rfl, h⟩; exact ⟨by rw [same_tru], h⟩)
                have HS2 : Hid (∀ V, Below V3.heap.size V3 V → Calls Try.prog 11 #[.agg #[.int .i64 2, .int .i64 0, .string ⟨(sFalse).toArray⟩, .slice A6 n6 c6], .agg #[.int .i64 2, .int .i64 0, .string ⟨sFalse.toArray⟩, .slice none 0 0]] V fun e w' => e = .returned (.bool true) ∧ Below V.heap.size V w') := fun V hb => (same_v (HT3.out.below hb) (tval_a V sFalse)).mono (by rintro e w' ⟨rfl, h⟩; exact ⟨by rw [same_fls]; rfl, h⟩)
                go_upto_region 11 with (fail)
                go_region_held3 (fun V => (V.cell? ⟨g6, 0, none⟩ = some (.int .i64 2) ∧ V.cell? ⟨g6, 1, none⟩ = some (.int .i64 0) ∧ V.cell? ⟨g6, 2, none⟩ = some (.string ⟨(sFalse).toArray⟩) ∧ V.cell? ⟨g6, 3, none⟩ = some (.slice A6 n6 c6)) ∧ Below V3.heap.size V3 V) (first | exact HKP.out _ H00.out | exact HKP.out _ (by assumption) | assumption) ((first
                  | (go_at_call 17; refine (tatom_v _ _).mono ?_; rintro r V9 ⟨rfl, hb9⟩; have hP9 : Below V3.heap.size V3 V9 := below_step (And.right (by assumption)) hb9; clear hb9)
                  | (go_at_call 11; refine (HS1.out _ (And.right (by assumption))).mono ?_; rintro r V9 ⟨rfl, hb9⟩; have hP9 : Below V3.heap.size V3 V9 := below_step (And.right (by assumption)) hb9; clear hb9)))
                rename_i hHeld9
                have hH9 := hHeld9.2
                clear hHeld9
                have H01 := Lib.hid hH9.drew
                clear hH9
                go_upto_region 13 with (fail)
                go_region_held3 (fun V => (V.cell? ⟨g6, 0, none⟩ = some (.int .i64 2) ∧ V.cell? ⟨g6, 1, none⟩ = some (.int .i64 0) ∧ V.cell? ⟨g6, 2, none⟩ = some (.string ⟨(sFalse).toArray⟩) ∧ V.cell? ⟨g6, 3, none⟩ = some (.slice A6 n6 c6)) ∧ Below V3.heap.size V3 V) (first | exact HKP.out _ H01.out | exact HKP.out _ (by assumption) | assumption) ((first
                  | (go_at_call 17; refine (tatom_v _ _).mono ?_; rintro r V9 ⟨rfl, hb9⟩; have hP9 : Below V3.heap.size V3 V9 := below_step (And.right (by assumption)) hb9; clear hb9)
                  | (go_at_call 11; refine (HS2.out _ (And.right (by assumption))).mono ?_; rintro r V9 ⟨rfl, hb9⟩; have hP9 : Below V3.heap.size V3 V9 := below_step (And.right (by assumption)) hb9; clear hb9)))
                rename_i hHeld9
                have hH9 := hHeld9.2
                clear hHeld9
                have hw := HW.out
                go_wp2
                go_roundw
                case rel => exact ⟨i + 1, by omega, by rw [HCN.out]; simp, by simp, HK3.out.keep hH9⟩
                case measure => simp; omega
        · skip
          go_simp
          refine hK.out _ _ (below_step hbA (below_alloc _ _)) (fun _ => ?_)
          clear hK K
          try simp only [Act.put, List.getElem_toArray, List.getElem_cons_succ, List.getElem_cons_zero, List.setIfInBounds_toArray, List.set_cons_succ, List.set_cons_zero]
          obtain ⟨gz, hgz⟩ : ∃ g, VA.heap.size = g := ⟨_, rfl⟩
          rw [hgz]
          refine wpAnyW_world (fun V => Below wr.heap.size wr V ∧ Blk V wr.heap.size 24 #[.int .i64 t.kind, .int .i64 t.int, .string ⟨t.name.toArray⟩, .slice A n c] ∧ Blk V gz 24 #[.int .i64 0, .int .i64 0, .string ⟨#[]⟩, .slice none 0 0] ∧ wr.heap.size ≤ gz) ⟨below_step hbA (below_alloc _ _), hkA.alloc _, by rw [← hgz]; exact Blk.new VA _ _, by rw [← hgz]; exact hbA.size⟩ ?_
          clear hbA hkA hgz
          rintro VB ⟨hbA, hkA, hzB, hlz⟩
          have HLZ := Lib.hid hlz
          clear hlz
          refine wpAnyW_ready (rs := [6]) (by kernel_rfl) (by simp) ?_
          refine AllReadyW.cons rfl (fun K hK => ?_) AllReadyW.nil
          go_simp
          refine (HDO.out _ _ hbA hkA).mono ?_
          rintro e w2 ⟨u, rfl, hT2, hb2⟩
          obtain ⟨A6, n6, c6, rfl, hn6⟩ := hT2.form
          clear hn6
          refine hK.out _ _ (below_step hbA hb2) (fun _ => ?_)
          clear hK K
          (refine wpAnyW_take (i := 7) (v := ?_) rfl (by kernel_rfl) (by kernel_rfl) (by kernel_rfl) (by kernel_rfl) (fun _ _ _ h => h) (Or.inl ⟨by kernel_rfl, ?_⟩) (by assumption) ?_; rotate_left; focus (intro V9 hS9; go_simp; (try (with_reducible rfl)); done))
          try simp only [Act.put, List.getElem_toArray, List.getElem_cons_succ, List.getElem_cons_zero, List.setIfInBounds_toArray, List.set_cons_succ, List.set_cons_zero]
          (refine wpAnyW_take (i := 8) (v := ?_) rfl (by kernel_rfl) (by kernel_rfl) (by kernel_rfl) (by kernel_rfl) (fun _ _ _ h => h) (Or.inl ⟨by kernel_rfl, ?_⟩) (by assumption) ?_; rotate_left; focus (intro V9 hS9; go_simp; (try (with_reducible rfl)); done))
          try simp only [Act.put, List.getElem_toArray, List.getElem_cons_succ, List.getElem_cons_zero, List.setIfInBounds_toArray, List.set_cons_succ, List.set_cons_zero]
          have hz := hzB.keep hb2
          have z0 := hz.cell 0
          have z1 := hz.cell 1
          have z2 := hz.cell 2
          have z3 := hz.cell 3
          have zf0 := hz.frozen 0
          have zf1 := hz.frozen 1
          have zf2 := hz.frozen 2
          have zf3 := hz.frozen 3
          refine wpAnyW_ready (rs := [9, 11]) (by kernel_rfl) (by simp) ?_
          refine AllReadyW.cons rfl (fun K hK => ?_) (AllReadyW.consE rfl (by kernel_rfl) (fun K hK => ?_) AllReadyW.nil)
          · skip
            go_simp
            refine hK.out _ _ (below_step hbA hb2) (fun _ => ?_)
            clear hK K
            try simp only [Act.put, List.getElem_toArray, List.getElem_cons_succ, List.getElem_cons_zero, List.setIfInBounds_toArray, List.set_cons_succ, List.set_cons_zero]
            refine wpAnyW_ready (rs := [11]) (by kernel_rfl) (by simp) ?_
            refine AllReadyW.consE rfl (by kernel_rfl) (fun K hK => ?_) AllReadyW.nil
            go_simp
            refine hK.out _ _ ?_
            clear hK K
            try simp only [Act.put, List.getElem_toArray, List.getElem_cons_succ, List.getElem_cons_zero, List.setIfInBounds_toArray, List.set_cons_succ, List.set_cons_zero]
            refine wpAnyW_ready (rs := [12]) (by kernel_rfl) (by simp) ?_
            refine AllReadyW.consE rfl (by kernel_rfl) (fun K hK => ?_) AllReadyW.nil
            go_simp
            refine hK.out _ _ ?_
            clear hK K
            try simp only [Act.put, List.getElem_toArray, List.getElem_cons_succ, List.getElem_cons_zero, List.setIfInBounds_toArray, List.set_cons_succ, List.set_cons_zero]
            refine wpAnyW_done (by kernel_rfl) ?_ _
            go_upto_region 9 with (fail)
            obtain ⟨g6, hg6⟩ : ∃ g, gz = g := ⟨_, rfl⟩
            rw [hg6]
            refine wp_world (fun V => Below wr.heap.size wr V ∧ Blk V g6 24 #[.int .i64 2, .int .i64 0, .string ⟨(if b then sTrue else sFalse).toArray⟩, .slice A6 n6 c6] ∧ TVal V (.agg #[.int .i64 2, .int .i64 0, .string ⟨(if b then sTrue else sFalse).toArray⟩, .slice A6 n6 c6]) (truT b)) (by rw [← hg6]; exact (set_box hbA hb2 hz HLZ.out (tex_flat hT2 rfl))) ?_
            clear hg6 hbA hkA HSA hT2 hb2 hz hzB z0 z1 z2 z3 zf0 zf1 zf2 zf3 HLZ
            rintro V3 ⟨hb3, hk3, hT3⟩
            have HK3 := Lib.hid (HK.out.keep hb3)
            have HBK := Lib.hid hk3
            have HT3 := Lib.hid hT3
            have H00 : Hid (Below V3.heap.size V3 V3.drew) := (Below.refl _ _).drew
            clear hb3 hk3 hT3
            cases b with
            | true =>
              have HKP : Hid (∀ V, Below V3.heap.size V3 V → (V.cell? ⟨g6, 0, none⟩ = some (.int .i64 2) ∧ V.cell? ⟨g6, 1, none⟩ = some (.int .i64 0) ∧ V.cell? ⟨g6, 2, none⟩ = some (.string ⟨(sTrue).toArray⟩) ∧ V.cell? ⟨g6, 3, none⟩ = some (.slice A6 n6 c6)) ∧ Below V3.heap.size V3 V) := fun V hb => ⟨⟨(HBK.out.keep hb).cell 0, (HBK.out.keep hb).cell 1, (HBK.out.keep hb).cell 2, (HBK.out.keep hb).cell 3⟩, hb⟩
              have HS1 : Hid (∀ V, Below V3.heap.size V3 V → Calls Try.prog 11 #[.agg #[.int .i64 2, .int .i64 0, .string ⟨(sTrue).toArray⟩, .slice A6 n6 c6], .agg #[.int .i64 2, .int .i64 0, .string ⟨sTrue.toArray⟩, .slice none 0 0]] V fun e w' => e = .returned (.bool true) ∧ Below V.heap.size V w') := fun V hb => (same_v (HT3.out.below hb) (tval_a V sTrue)).mono (by rintro e w' ⟨rfl, h⟩; exact ⟨by rw [same_tru], h⟩)
              go_upto_region 11 with (fail)
              go_region_held3 (fun V => (V.cell? ⟨g6, 0, none⟩ = some (.int .i64 2) ∧ V.cell? ⟨g6, 1, none⟩ = some (.int .i64 0) ∧ V.cell? ⟨g6, 2, none⟩ = some (.string ⟨(sTrue).toArray⟩) ∧ V.cell? ⟨g6, 3, none⟩ = some (.slice A6 n6 c6)) ∧ Below V3.heap.size V3 V) (first | exact HKP.out _ H00.out | exact HKP.out _ (by assumption) | assumption) ((first
                | (go_at_call 17; refine (tatom_v _ _).mono ?_; rintro r V9 ⟨rfl, hb9⟩; have hP9 : Below V3.heap.size V3 V9 := below_step (And.right (by assumption)) hb9; clear hb9)
                | (go_at_call 11; refine (HS1.out _ (And.right (by assumption))).mono ?_; rintro r V9 ⟨rfl, hb9⟩; have hP9 : Below V3.heap.size V3 V9 := below_step (And.right (by assumption)) hb9; clear hb9)))
              rename_i hHeld9
              have hH9 := hHeld9.2
              clear hHeld9
              have hw := HW.out
              have hw2 := HW2.out
              go_wp2
              go_roundw
              case rel => exact ⟨i + 1, by omega, by rw [HCN.out]; simp [hw2], by simp, HK3.out.keep hH9⟩
              case measure => simp; omega
            | false =>
              have HKP : Hid (∀ V, Below V3.heap.size V3 V → (V.cell? ⟨g6, 0, none⟩ = some (.int .i64 2) ∧ V.cell? ⟨g6, 1, none⟩ = some (.int .i64 0) ∧ V.cell? ⟨g6, 2, none⟩ = some (.string ⟨(sFalse).toArray⟩) ∧ V.cell? ⟨g6, 3, none⟩ = some (.slice A6 n6 c6)) ∧ Below V3.heap.size V3 V) := fun V hb => ⟨⟨(HBK.out.keep hb).cell 0, (HBK.out.keep hb).cell 1, (HBK.out.keep hb).cell 2, (HBK.out.keep hb).cell 3⟩, hb⟩
              have HS1 : Hid (∀ V, Below V3.heap.size V3 V → Calls Try.prog 11 #[.agg #[.int .i64 2, .int .i64 0, .string ⟨(sFalse).toArray⟩, .slice A6 n6 c6], .agg #[.int .i64 2, .int .i64 0, .string ⟨sTrue.toArray⟩, .slice none 0 0]] V fun e w' => e = .returned (.bool false) ∧ Below V.heap.size V w') := fun V hb => (same_v (HT3.out.below hb) (tval_a V sTrue)).mono (by rintro e w' ⟨rfl, h⟩; exact ⟨by rw [same_tru], h⟩)
              have HS2 : Hid (∀ V, Below V3.heap.size V3 V → Calls Try.prog 11 #[.agg #[.int .i64 2, .int .i64 0, .string ⟨(sFalse).toArray⟩, .slice A6 n6 c6], .agg #[.int .i64 2, .int .i64 0, .string ⟨sFalse.toArray⟩, .slice none 0 0]] V fun e w' => e = .returned (.bool true) ∧ Below V.heap.size V w') := fun V hb => (same_v (HT3.out.below hb) (tval_a V sFalse)).mono (by rintro e w' ⟨rfl, h⟩; exact ⟨by rw [same_fls]; rfl, h⟩)
              go_upto_region 11 with (fail)
              go_region_held3 (fun V => (V.cell? ⟨g6, 0, none⟩ = some (.int .i64 2) ∧ V.cell? ⟨g6, 1, none⟩ = some (.int .i64 0) ∧ V.cell? ⟨g6, 2, none⟩ = some (.string ⟨(sFalse).toArray⟩) ∧ V.cell? ⟨g6, 3, none⟩ = some (.slice A6 n6 c6)) ∧ Below V3.heap.size V3 V) (first | exact HKP.out _ H00.out | exact HKP.out _ (by assumption) | assumption) ((first
                | (go_at_call 17; refine (tatom_v _ _).mono ?_; rintro r V9 ⟨rfl, hb9⟩; have hP9 : Below V3.heap.size V3 V9 := below_step (And.right (by assumption)) hb9; clear hb9)
                | (go_at_call 11; refine (HS1.out _ (And.right (by assumption))).mono ?_; rintro r V9 ⟨rfl, hb9⟩; have hP9 : Below V3.heap.size V3 V9 := below_step (And.right (by assumption)) hb9; clear hb9)))
              rename_i hHeld9
              have hH9 := hHeld9.2
              clear hHeld9
              have H01 := Lib.hid hH9.drew
              clear hH9
              go_upto_region 13 with (fail)
              go_region_held3 (fun V => (V.cell? ⟨g6, 0, none⟩ = some (.int .i64 2) ∧ V.cell? ⟨g6, 1, none⟩ = some (.int .i64 0) ∧ V.cell? ⟨g6, 2, none⟩ = some (.string ⟨(sFalse).toArray⟩) ∧ V.cell? ⟨g6, 3, none⟩ = some (.slice A6 n6 c6)) ∧ Below V3.heap.size V3 V) (first | exact HKP.out _ H01.out | exact HKP.out _ (by assumption) | assumption) ((first
                | (go_at_call 17; refine (tatom_v _ _).mono ?_; rintro r V9 ⟨rfl, hb9⟩; have hP9 : Below V3.heap.size V3 V9 := below_step (And.right (by assumption)) hb9; clear hb9)
                | (go_at_call 11; refine (HS2.out _ (And.right (by assumption))).mono ?_; rintro r V9 ⟨rfl, hb9⟩; have hP9 : Below V3.heap.size V3 V9 := below_step (And.right (by assumption)) hb9; clear hb9)))
              rename_i hHeld9
              have hH9 := hHeld9.2
              clear hHeld9
              have hw := HW.out
              go_wp2
              go_roundw
              case rel => exact ⟨i + 1, by omega, by rw [HCN.out]; simp, by simp, HK3.out.keep hH9⟩
              case measure => simp; omega
          · skip
            go_simp
            refine hK.out _ _ ?_
            clear hK K
            try simp only [Act.put, List.getElem_toArray, List.getElem_cons_succ, List.getElem_cons_zero, List.setIfInBounds_toArray, List.set_cons_succ, List.set_cons_zero]
            refine wpAnyW_ready (rs := [9]) (by kernel_rfl) (by simp) ?_
            refine AllReadyW.consE rfl (by kernel_rfl) (fun K hK => ?_) AllReadyW.nil
            go_simp
            refine hK.out _ _ ?_
            clear hK K
            try simp only [Act.put, List.getElem_toArray, List.getElem_cons_succ, List.getElem_cons_zero, List.setIfInBounds_toArray, List.set_cons_succ, List.set_cons_zero]
            refine wpAnyW_ready (rs := [12]) (by kernel_rfl) (by simp) ?_
            refine AllReadyW.consE rfl (by kernel_rfl) (fun K hK => ?_) AllReadyW.nil
            go_simp
            refine hK.out _ _ ?_
            clear hK K
            try simp only [Act.put, List.getElem_toArray, List.getElem_cons_succ, List.getElem_cons_zero, List.setIfInBounds_toArray, List.set_cons_succ, List.set_cons_zero]
            refine wpAnyW_done (by kernel_rfl) ?_ _
            go_upto_region 9 with (fail)
            obtain ⟨g6, hg6⟩ : ∃ g, gz = g := ⟨_, rfl⟩
            rw [hg6]
            refine wp_world (fun V => Below wr.heap.size wr V ∧ Blk V g6 24 #[.int .i64 2, .int .i64 0, .string ⟨(if b then sTrue else sFalse).toArray⟩, .slice A6 n6 c6] ∧ TVal V (.agg #[.int .i64 2, .int .i64 0, .string ⟨(if b then sTrue else sFalse).toArray⟩, .slice A6 n6 c6]) (truT b)) (by rw [← hg6]; exact (set_box hbA hb2 hz HLZ.out (tex_flat hT2 rfl))) ?_
            clear hg6 hbA hkA HSA hT2 hb2 hz hzB z0 z1 z2 z3 zf0 zf1 zf2 zf3 HLZ
            rintro V3 ⟨hb3, hk3, hT3⟩
            have HK3 := Lib.hid (HK.out.keep hb3)
            have HBK := Lib.hid hk3
            have HT3 := Lib.hid hT3
            have H00 : Hid (Below V3.heap.size V3 V3.drew) := (Below.refl _ _).drew
            clear hb3 hk3 hT3
            cases b with
            | true =>
              have HKP : Hid (∀ V, Below V3.heap.size V3 V → (V.cell? ⟨g6, 0, none⟩ = some (.int .i64 2) ∧ V.cell? ⟨g6, 1, none⟩ = some (.int .i64 0) ∧ V.cell? ⟨g6, 2, none⟩ = some (.string ⟨(sTrue).toArray⟩) ∧ V.cell? ⟨g6, 3, none⟩ = some (.slice A6 n6 c6)) ∧ Below V3.heap.size V3 V) := fun V hb => ⟨⟨(HBK.out.keep hb).cell 0, (HBK.out.keep hb).cell 1, (HBK.out.keep hb).cell 2, (HBK.out.keep hb).cell 3⟩, hb⟩
              have HS1 : Hid (∀ V, Below V3.heap.size V3 V → Calls Try.prog 11 #[.agg #[.int .i64 2, .int .i64 0, .string ⟨(sTrue).toArray⟩, .slice A6 n6 c6], .agg #[.int .i64 2, .int .i64 0, .string ⟨sTrue.toArray⟩, .slice none 0 0]] V fun e w' => e = .returned (.bool true) ∧ Below V.heap.size V w') := fun V hb => (same_v (HT3.out.below hb) (tval_a V sTrue)).mono (by rintro e w' ⟨rfl, h⟩; exact ⟨by rw [same_tru], h⟩)
              go_upto_region 11 with (fail)
              go_region_held3 (fun V => (V.cell? ⟨g6, 0, none⟩ = some (.int .i64 2) ∧ V.cell? ⟨g6, 1, none⟩ = some (.int .i64 0) ∧ V.cell? ⟨g6, 2, none⟩ = some (.string ⟨(sTrue).toArray⟩) ∧ V.cell? ⟨g6, 3, none⟩ = some (.slice A6 n6 c6)) ∧ Below V3.heap.size V3 V) (first | exact HKP.out _ H00.out | exact HKP.out _ (by assumption) | assumption) ((first
                | (go_at_call 17; refine (tatom_v _ _).mono ?_; rintro r V9 ⟨rfl, hb9⟩; have hP9 : Below V3.heap.size V3 V9 := below_step (And.right (by assumption)) hb9; clear hb9)
                | (go_at_call 11; refine (HS1.out _ (And.right (by assumption))).mono ?_; rintro r V9 ⟨rfl, hb9⟩; have hP9 : Below V3.heap.size V3 V9 := below_step (And.right (by assumption)) hb9; clear hb9)))
              rename_i hHeld9
              have hH9 := hHeld9.2
              clear hHeld9
              have hw := HW.out
              have hw2 := HW2.out
              go_wp2
              go_roundw
              case rel => exact ⟨i + 1, by omega, by rw [HCN.out]; simp [hw2], by simp, HK3.out.keep hH9⟩
              case measure => simp; omega
            | false =>
              have HKP : Hid (∀ V, Below V3.heap.size V3 V → (V.cell? ⟨g6, 0, none⟩ = some (.int .i64 2) ∧ V.cell? ⟨g6, 1, none⟩ = some (.int .i64 0) ∧ V.cell? ⟨g6, 2, none⟩ = some (.string ⟨(sFalse).toArray⟩) ∧ V.cell? ⟨g6, 3, none⟩ = some (.slice A6 n6 c6)) ∧ Below V3.heap.size V3 V) := fun V hb => ⟨⟨(HBK.out.keep hb).cell 0, (HBK.out.keep hb).cell 1, (HBK.out.keep hb).cell 2, (HBK.out.keep hb).cell 3⟩, hb⟩
              have HS1 : Hid (∀ V, Below V3.heap.size V3 V → Calls Try.prog 11 #[.agg #[.int .i64 2, .int .i64 0, .string ⟨(sFalse).toArray⟩, .slice A6 n6 c6], .agg #[.int .i64 2, .int .i64 0, .string ⟨sTrue.toArray⟩, .slice none 0 0]] V fun e w' => e = .returned (.bool false) ∧ Below V.heap.size V w') := fun V hb => (same_v (HT3.out.below hb) (tval_a V sTrue)).mono (by rintro e w' ⟨rfl, h⟩; exact ⟨by rw [same_tru], h⟩)
              have HS2 : Hid (∀ V, Below V3.heap.size V3 V → Calls Try.prog 11 #[.agg #[.int .i64 2, .int .i64 0, .string ⟨(sFalse).toArray⟩, .slice A6 n6 c6], .agg #[.int .i64 2, .int .i64 0, .string ⟨sFalse.toArray⟩, .slice none 0 0]] V fun e w' => e = .returned (.bool true) ∧ Below V.heap.size V w') := fun V hb => (same_v (HT3.out.below hb) (tval_a V sFalse)).mono (by rintro e w' ⟨rfl, h⟩; exact ⟨by rw [same_fls]; rfl, h⟩)
              go_upto_region 11 with (fail)
              go_region_held3 (fun V => (V.cell? ⟨g6, 0, none⟩ = some (.int .i64 2) ∧ V.cell? ⟨g6, 1, none⟩ = some (.int .i64 0) ∧ V.cell? ⟨g6, 2, none⟩ = some (.string ⟨(sFalse).toArray⟩) ∧ V.cell? ⟨g6, 3, none⟩ = some (.slice A6 n6 c6)) ∧ Below V3.heap.size V3 V) (first | exact HKP.out _ H00.out | exact HKP.out _ (by assumption) | assumption) ((first
                | (go_at_call 17; refine (tatom_v _ _).mono ?_; rintro r V9 ⟨rfl, hb9⟩; have hP9 : Below V3.heap.size V3 V9 := below_step (And.right (by assumption)) hb9; clear hb9)
                | (go_at_call 11; refine (HS1.out _ (And.right (by assumption))).mono ?_; rintro r V9 ⟨rfl, hb9⟩; have hP9 : Below V3.heap.size V3 V9 := below_step (And.right (by assumption)) hb9; clear hb9)))
              rename_i hHeld9
              have hH9 := hHeld9.2
              clear hHeld9
              have H01 := Lib.hid hH9.drew
              clear hH9
              go_upto_region 13 with (fail)
              go_region_held3 (fun V => (V.cell? ⟨g6, 0, none⟩ = some (.int .i64 2) ∧ V.cell? ⟨g6, 1, none⟩ = some (.int .i64 0) ∧ V.cell? ⟨g6, 2, none⟩ = some (.string ⟨(sFalse).toArray⟩) ∧ V.cell? ⟨g6, 3, none⟩ = some (.slice A6 n6 c6)) ∧ Below V3.heap.size V3 V) (first | exact HKP.out _ H01.out | exact HKP.out _ (by assumption) | assumption) ((first
                | (go_at_call 17; refine (tatom_v _ _).mono ?_; rintro r V9 ⟨rfl, hb9⟩; have hP9 : Below V3.heap.size V3 V9 := below_step (And.right (by assumption)) hb9; clear hb9)
                | (go_at_call 11; refine (HS2.out _ (And.right (by assumption))).mono ?_; rintro r V9 ⟨rfl, hb9⟩; have hP9 : Below V3.heap.size V3 V9 := below_step (And.right (by assumption)) hb9; clear hb9)))
              rename_i hHeld9
              have hH9 := hHeld9.2
              clear hHeld9
              have hw := HW.out
              go_wp2
              go_roundw
              case rel => exact ⟨i + 1, by omega, by rw [HCN.out]; simp, by simp, HK3.out.keep hH9⟩
              case measure => simp; omega
      · skip
        go_simp
        refine hK.out _ _ (below_step (Below.refl wr.heap.size wr).drew (below_alloc _ _)) (fun _ => ?_)
        clear hK K
        try simp only [Act.put, List.getElem_toArray, List.getElem_cons_succ, List.getElem_cons_zero, List.setIfInBounds_toArray, List.set_cons_succ, List.set_cons_zero]
        refine wpAnyW_world (fun V => Below wr.heap.size wr V ∧ Blk V wr.heap.size 24 #[.int .i64 0, .int .i64 0, .string ⟨#[]⟩, .slice none 0 0]) ⟨below_step (Below.refl wr.heap.size wr).drew (below_alloc _ _), Blk.new wr.drew _ _⟩ ?_
        rintro VA ⟨hbA, hzA⟩
        refine wpAnyW_ready (rs := [5]) (by kernel_rfl) (by simp) ?_
        refine AllReadyW.cons rfl (fun K hK => ?_) AllReadyW.nil
        go_simp
        refine hK.out _ _ (below_step hbA (below_alloc _ _)) (fun _ => ?_)
        clear hK K
        try simp only [Act.put, List.getElem_toArray, List.getElem_cons_succ, List.getElem_cons_zero, List.setIfInBounds_toArray, List.set_cons_succ, List.set_cons_zero]
        obtain ⟨ga, hga⟩ : ∃ g, VA.heap.size = g := ⟨_, rfl⟩
        rw [hga]
        obtain ⟨gz, hgz⟩ : ∃ g, wr.heap.size = g := ⟨_, rfl⟩
        refine wpAnyW_world (fun V => Below wr.heap.size wr V ∧ Blk V ga 24 #[.int .i64 t.kind, .int .i64 t.int, .string ⟨t.name.toArray⟩, .slice A n c] ∧ Blk V wr.heap.size 24 #[.int .i64 0, .int .i64 0, .string ⟨#[]⟩, .slice none 0 0]) ⟨below_step hbA (below_alloc _ _), by rw [← hga]; exact Blk.new VA _ _, hzA.alloc _⟩ ?_
        clear hbA hzA hga hgz
        rintro VB ⟨hbA, hkA, hzB⟩
        refine wpAnyW_ready (rs := [6]) (by kernel_rfl) (by simp) ?_
        refine AllReadyW.cons rfl (fun K hK => ?_) AllReadyW.nil
        go_simp
        refine (HDO.out _ _ hbA hkA).mono ?_
        rintro e w2 ⟨u, rfl, hT2, hb2⟩
        obtain ⟨A6, n6, c6, rfl, hn6⟩ := hT2.form
        clear hn6
        refine hK.out _ _ (below_step hbA hb2) (fun _ => ?_)
        clear hK K
        (refine wpAnyW_take (i := 7) (v := ?_) rfl (by kernel_rfl) (by kernel_rfl) (by kernel_rfl) (by kernel_rfl) (fun _ _ _ h => h) (Or.inl ⟨by kernel_rfl, ?_⟩) (by assumption) ?_; rotate_left; focus (intro V9 hS9; go_simp; (try (with_reducible rfl)); done))
        try simp only [Act.put, List.getElem_toArray, List.getElem_cons_succ, List.getElem_cons_zero, List.setIfInBounds_toArray, List.set_cons_succ, List.set_cons_zero]
        (refine wpAnyW_take (i := 8) (v := ?_) rfl (by kernel_rfl) (by kernel_rfl) (by kernel_rfl) (by kernel_rfl) (fun _ _ _ h => h) (Or.inl ⟨by kernel_rfl, ?_⟩) (by assumption) ?_; rotate_left; focus (intro V9 hS9; go_simp; (try (with_reducible rfl)); done))
        try simp only [Act.put, List.getElem_toArray, List.getElem_cons_succ, List.getElem_cons_zero, List.setIfInBounds_toArray, List.set_cons_succ, List.set_cons_zero]
        have hz := hzB.keep hb2
        have z0 := hz.cell 0
        have z1 := hz.cell 1
        have z2 := hz.cell 2
        have z3 := hz.cell 3
        have zf0 := hz.frozen 0
        have zf1 := hz.frozen 1
        have zf2 := hz.frozen 2
        have zf3 := hz.frozen 3
        refine wpAnyW_ready (rs := [9, 11]) (by kernel_rfl) (by simp) ?_
        refine AllReadyW.cons rfl (fun K hK => ?_) (AllReadyW.consE rfl (by kernel_rfl) (fun K hK => ?_) AllReadyW.nil)
        · skip
          go_simp
          refine hK.out _ _ (below_step hbA hb2) (fun _ => ?_)
          clear hK K
          try simp only [Act.put, List.getElem_toArray, List.getElem_cons_succ, List.getElem_cons_zero, List.setIfInBounds_toArray, List.set_cons_succ, List.set_cons_zero]
          refine wpAnyW_ready (rs := [11]) (by kernel_rfl) (by simp) ?_
          refine AllReadyW.consE rfl (by kernel_rfl) (fun K hK => ?_) AllReadyW.nil
          go_simp
          refine hK.out _ _ ?_
          clear hK K
          try simp only [Act.put, List.getElem_toArray, List.getElem_cons_succ, List.getElem_cons_zero, List.setIfInBounds_toArray, List.set_cons_succ, List.set_cons_zero]
          refine wpAnyW_ready (rs := [12]) (by kernel_rfl) (by simp) ?_
          refine AllReadyW.consE rfl (by kernel_rfl) (fun K hK => ?_) AllReadyW.nil
          go_simp
          refine hK.out _ _ ?_
          clear hK K
          try simp only [Act.put, List.getElem_toArray, List.getElem_cons_succ, List.getElem_cons_zero, List.setIfInBounds_toArray, List.set_cons_succ, List.set_cons_zero]
          refine wpAnyW_done (by kernel_rfl) ?_ _
          go_upto_region 9 with (fail)
          obtain ⟨g6, hg6⟩ : ∃ g, wr.heap.size = g := ⟨_, rfl⟩
          rw [hg6]
          refine wp_world (fun V => Below wr.heap.size wr V ∧ Blk V g6 24 #[.int .i64 2, .int .i64 0, .string ⟨(if b then sTrue else sFalse).toArray⟩, .slice A6 n6 c6] ∧ TVal V (.agg #[.int .i64 2, .int .i64 0, .string ⟨(if b then sTrue else sFalse).toArray⟩, .slice A6 n6 c6]) (truT b)) (by rw [← hg6]; exact (set_box hbA hb2 hz (Nat.le_refl _) (tex_flat hT2 rfl))) ?_
          clear hg6 hbA hkA hT2 hb2 hz hzB z0 z1 z2 z3 zf0 zf1 zf2 zf3
          rintro V3 ⟨hb3, hk3, hT3⟩
          have HK3 := Lib.hid (HK.out.keep hb3)
          have HBK := Lib.hid hk3
          have HT3 := Lib.hid hT3
          have H00 : Hid (Below V3.heap.size V3 V3.drew) := (Below.refl _ _).drew
          clear hb3 hk3 hT3
          cases b with
          | true =>
            have HKP : Hid (∀ V, Below V3.heap.size V3 V → (V.cell? ⟨g6, 0, none⟩ = some (.int .i64 2) ∧ V.cell? ⟨g6, 1, none⟩ = some (.int .i64 0) ∧ V.cell? ⟨g6, 2, none⟩ = some (.string ⟨(sTrue).toArray⟩) ∧ V.cell? ⟨g6, 3, none⟩ = some (.slice A6 n6 c6)) ∧ Below V3.heap.size V3 V) := fun V hb => ⟨⟨(HBK.out.keep hb).cell 0, (HBK.out.keep hb).cell 1, (HBK.out.keep hb).cell 2, (HBK.out.keep hb).cell 3⟩, hb⟩
            have HS1 : Hid (∀ V, Below V3.heap.size V3 V → Calls Try.prog 11 #[.agg #[.int .i64 2, .int .i64 0, .string ⟨(sTrue).toArray⟩, .slice A6 n6 c6], .agg #[.int .i64 2, .int .i64 0, .string ⟨sTrue.toArray⟩, .slice none 0 0]] V fun e w' => e = .returned (.bool true) ∧ Below V.heap.size V w') := fun V hb => (same_v (HT3.out.below hb) (tval_a V sTrue)).mono (by rintro e w' ⟨rfl, h⟩; exact ⟨by rw [same_tru], h⟩)
            go_upto_region 11 with (fail)
            go_region_held3 (fun V => (V.cell? ⟨g6, 0, none⟩ = some (.int .i64 2) ∧ V.cell? ⟨g6, 1, none⟩ = some (.int .i64 0) ∧ V.cell? ⟨g6, 2, none⟩ = some (.string ⟨(sTrue).toArray⟩) ∧ V.cell? ⟨g6, 3, none⟩ = some (.slice A6 n6 c6)) ∧ Below V3.heap.size V3 V) (first | exact HKP.out _ H00.out | exact HKP.out _ (by assumption) | assumption) ((first
              | (go_at_call 17; refine (tatom_v _ _).mono ?_; rintro r V9 ⟨rfl, hb9⟩; have hP9 : Below V3.heap.size V3 V9 := below_step (And.right (by assumption)) hb9; clear hb9)
              | (go_at_call 11; refine (HS1.out _ (And.right (by assumption))).mono ?_; rintro r V9 ⟨rfl, hb9⟩; have hP9 : Below V3.heap.size V3 V9 := below_step (And.right (by assumption)) hb9; clear hb9)))
            rename_i hHeld9
            have hH9 := hHeld9.2
            clear hHeld9
            have hw := HW.out
            have hw2 := HW2.out
            go_wp2
            go_roundw
            case rel => exact ⟨i + 1, by omega, by rw [HCN.out]; simp [hw2], by simp, HK3.out.keep hH9⟩
            case measure => simp; omega
          | false =>
            have HKP : Hid (∀ V, Below V3.heap.size V3 V → (V.cell? ⟨g6, 0, none⟩ = some (.int .i64 2) ∧ V.cell? ⟨g6, 1, none⟩ = some (.int .i64 0) ∧ V.cell? ⟨g6, 2, none⟩ = some (.string ⟨(sFalse).toArray⟩) ∧ V.cell? ⟨g6, 3, none⟩ = some (.slice A6 n6 c6)) ∧ Below V3.heap.size V3 V) := fun V hb => ⟨⟨(HBK.out.keep hb).cell 0, (HBK.out.keep hb).cell 1, (HBK.out.keep hb).cell 2, (HBK.out.keep hb).cell 3⟩, hb⟩
            have HS1 : Hid (∀ V, Below V3.heap.size V3 V → Calls Try.prog 11 #[.agg #[.int .i64 2, .int .i64 0, .string ⟨(sFalse).toArray⟩, .slice A6 n6 c6], .agg #[.int .i64 2, .int .i64 0, .string ⟨sTrue.toArray⟩, .slice none 0 0]] V fun e w' => e = .returned (.bool false) ∧ Below V.heap.size V w') := fun V hb => (same_v (HT3.out.below hb) (tval_a V sTrue)).mono (by rintro e w' ⟨rfl, h⟩; exact ⟨by rw [same_tru], h⟩)
            have HS2 : Hid (∀ V, Below V3.heap.size V3 V → Calls Try.prog 11 #[.agg #[.int .i64 2, .int .i64 0, .string ⟨(sFalse).toArray⟩, .slice A6 n6 c6], .agg #[.int .i64 2, .int .i64 0, .string ⟨sFalse.toArray⟩, .slice none 0 0]] V fun e w' => e = .returned (.bool true) ∧ Below V.heap.size V w') := fun V hb => (same_v (HT3.out.below hb) (tval_a V sFalse)).mono (by rintro e w' ⟨rfl, h⟩; exact ⟨by rw [same_fls]; rfl, h⟩)
            go_upto_region 11 with (fail)
            go_region_held3 (fun V => (V.cell? ⟨g6, 0, none⟩ = some (.int .i64 2) ∧ V.cell? ⟨g6, 1, none⟩ = some (.int .i64 0) ∧ V.cell? ⟨g6, 2, none⟩ = some (.string ⟨(sFalse).toArray⟩) ∧ V.cell? ⟨g6, 3, none⟩ = some (.slice A6 n6 c6)) ∧ Below V3.heap.size V3 V) (first | exact HKP.out _ H00.out | exact HKP.out _ (by assumption) | assumption) ((first
              | (go_at_call 17; refine (tatom_v _ _).mono ?_; rintro r V9 ⟨rfl, hb9⟩; have hP9 : Below V3.heap.size V3 V9 := below_step (And.right (by assumption)) hb9; clear hb9)
              | (go_at_call 11; refine (HS1.out _ (And.right (by assumption))).mono ?_; rintro r V9 ⟨rfl, hb9⟩; have hP9 : Below V3.heap.size V3 V9 := below_step (And.right (by assumption)) hb9; clear hb9)))
            rename_i hHeld9
            have hH9 := hHeld9.2
            clear hHeld9
            have H01 := Lib.hid hH9.drew
            clear hH9
            go_upto_region 13 with (fail)
            go_region_held3 (fun V => (V.cell? ⟨g6, 0, none⟩ = some (.int .i64 2) ∧ V.cell? ⟨g6, 1, none⟩ = some (.int .i64 0) ∧ V.cell? ⟨g6, 2, none⟩ = some (.string ⟨(sFalse).toArray⟩) ∧ V.cell? ⟨g6, 3, none⟩ = some (.slice A6 n6 c6)) ∧ Below V3.heap.size V3 V) (first | exact HKP.out _ H01.out | exact HKP.out _ (by assumption) | assumption) ((first
              | (go_at_call 17; refine (tatom_v _ _).mono ?_; rintro r V9 ⟨rfl, hb9⟩; have hP9 : Below V3.heap.size V3 V9 := below_step (And.right (by assumption)) hb9; clear hb9)
              | (go_at_call 11; refine (HS2.out _ (And.right (by assumption))).mono ?_; rintro r V9 ⟨rfl, hb9⟩; have hP9 : Below V3.heap.size V3 V9 := below_step (And.right (by assumption)) hb9; clear hb9)))
            rename_i hHeld9
            have hH9 := hHeld9.2
            clear hHeld9
            have hw := HW.out
            go_wp2
            go_roundw
            case rel => exact ⟨i + 1, by omega, by rw [HCN.out]; simp, by simp, HK3.out.keep hH9⟩
            case measure => simp; omega
        · skip
          go_simp
          refine hK.out _ _ ?_
          clear hK K
          try simp only [Act.put, List.getElem_toArray, List.getElem_cons_succ, List.getElem_cons_zero, List.setIfInBounds_toArray, List.set_cons_succ, List.set_cons_zero]
          refine wpAnyW_ready (rs := [9]) (by kernel_rfl) (by simp) ?_
          refine AllReadyW.consE rfl (by kernel_rfl) (fun K hK => ?_) AllReadyW.nil
          go_simp
          refine hK.out _ _ ?_
          clear hK K
          try simp only [Act.put, List.getElem_toArray, List.getElem_cons_succ, List.getElem_cons_zero, List.setIfInBounds_toArray, List.set_cons_succ, List.set_cons_zero]
          refine wpAnyW_ready (rs := [12]) (by kernel_rfl) (by simp) ?_
          refine AllReadyW.consE rfl (by kernel_rfl) (fun K hK => ?_) AllReadyW.nil
          go_simp
          refine hK.out _ _ ?_
          clear hK K
          try simp only [Act.put, List.getElem_toArray, List.getElem_cons_succ, List.getElem_cons_zero, List.setIfInBounds_toArray, List.set_cons_succ, List.set_cons_zero]
          refine wpAnyW_done (by kernel_rfl) ?_ _
          go_upto_region 9 with (fail)
          obtain ⟨g6, hg6⟩ : ∃ g, wr.heap.size = g := ⟨_, rfl⟩
          rw [hg6]
          refine wp_world (fun V => Below wr.heap.size wr V ∧ Blk V g6 24 #[.int .i64 2, .int .i64 0, .string ⟨(if b then sTrue else sFalse).toArray⟩, .slice A6 n6 c6] ∧ TVal V (.agg #[.int .i64 2, .int .i64 0, .string ⟨(if b then sTrue else sFalse).toArray⟩, .slice A6 n6 c6]) (truT b)) (by rw [← hg6]; exact (set_box hbA hb2 hz (Nat.le_refl _) (tex_flat hT2 rfl))) ?_
          clear hg6 hbA hkA hT2 hb2 hz hzB z0 z1 z2 z3 zf0 zf1 zf2 zf3
          rintro V3 ⟨hb3, hk3, hT3⟩
          have HK3 := Lib.hid (HK.out.keep hb3)
          have HBK := Lib.hid hk3
          have HT3 := Lib.hid hT3
          have H00 : Hid (Below V3.heap.size V3 V3.drew) := (Below.refl _ _).drew
          clear hb3 hk3 hT3
          cases b with
          | true =>
            have HKP : Hid (∀ V, Below V3.heap.size V3 V → (V.cell? ⟨g6, 0, none⟩ = some (.int .i64 2) ∧ V.cell? ⟨g6, 1, none⟩ = some (.int .i64 0) ∧ V.cell? ⟨g6, 2, none⟩ = some (.string ⟨(sTrue).toArray⟩) ∧ V.cell? ⟨g6, 3, none⟩ = some (.slice A6 n6 c6)) ∧ Below V3.heap.size V3 V) := fun V hb => ⟨⟨(HBK.out.keep hb).cell 0, (HBK.out.keep hb).cell 1, (HBK.out.keep hb).cell 2, (HBK.out.keep hb).cell 3⟩, hb⟩
            have HS1 : Hid (∀ V, Below V3.heap.size V3 V → Calls Try.prog 11 #[.agg #[.int .i64 2, .int .i64 0, .string ⟨(sTrue).toArray⟩, .slice A6 n6 c6], .agg #[.int .i64 2, .int .i64 0, .string ⟨sTrue.toArray⟩, .slice none 0 0]] V fun e w' => e = .returned (.bool true) ∧ Below V.heap.size V w') := fun V hb => (same_v (HT3.out.below hb) (tval_a V sTrue)).mono (by rintro e w' ⟨rfl, h⟩; exact ⟨by rw [same_tru], h⟩)
            go_upto_region 11 with (fail)
            go_region_held3 (fun V => (V.cell? ⟨g6, 0, none⟩ = some (.int .i64 2) ∧ V.cell? ⟨g6, 1, none⟩ = some (.int .i64 0) ∧ V.cell? ⟨g6, 2, none⟩ = some (.string ⟨(sTrue).toArray⟩) ∧ V.cell? ⟨g6, 3, none⟩ = some (.slice A6 n6 c6)) ∧ Below V3.heap.size V3 V) (first | exact HKP.out _ H00.out | exact HKP.out _ (by assumption) | assumption) ((first
              | (go_at_call 17; refine (tatom_v _ _).mono ?_; rintro r V9 ⟨rfl, hb9⟩; have hP9 : Below V3.heap.size V3 V9 := below_step (And.right (by assumption)) hb9; clear hb9)
              | (go_at_call 11; refine (HS1.out _ (And.right (by assumption))).mono ?_; rintro r V9 ⟨rfl, hb9⟩; have hP9 : Below V3.heap.size V3 V9 := below_step (And.right (by assumption)) hb9; clear hb9)))
            rename_i hHeld9
            have hH9 := hHeld9.2
            clear hHeld9
            have hw := HW.out
            have hw2 := HW2.out
            go_wp2
            go_roundw
            case rel => exact ⟨i + 1, by omega, by rw [HCN.out]; simp [hw2], by simp, HK3.out.keep hH9⟩
            case measure => simp; omega
          | false =>
            have HKP : Hid (∀ V, Below V3.heap.size V3 V → (V.cell? ⟨g6, 0, none⟩ = some (.int .i64 2) ∧ V.cell? ⟨g6, 1, none⟩ = some (.int .i64 0) ∧ V.cell? ⟨g6, 2, none⟩ = some (.string ⟨(sFalse).toArray⟩) ∧ V.cell? ⟨g6, 3, none⟩ = some (.slice A6 n6 c6)) ∧ Below V3.heap.size V3 V) := fun V hb => ⟨⟨(HBK.out.keep hb).cell 0, (HBK.out.keep hb).cell 1, (HBK.out.keep hb).cell 2, (HBK.out.keep hb).cell 3⟩, hb⟩
            have HS1 : Hid (∀ V, Below V3.heap.size V3 V → Calls Try.prog 11 #[.agg #[.int .i64 2, .int .i64 0, .string ⟨(sFalse).toArray⟩, .slice A6 n6 c6], .agg #[.int .i64 2, .int .i64 0, .string ⟨sTrue.toArray⟩, .slice none 0 0]] V fun e w' => e = .returned (.bool false) ∧ Below V.heap.size V w') := fun V hb => (same_v (HT3.out.below hb) (tval_a V sTrue)).mono (by rintro e w' ⟨rfl, h⟩; exact ⟨by rw [same_tru], h⟩)
            have HS2 : Hid (∀ V, Below V3.heap.size V3 V → Calls Try.prog 11 #[.agg #[.int .i64 2, .int .i64 0, .string ⟨(sFalse).toArray⟩, .slice A6 n6 c6], .agg #[.int .i64 2, .int .i64 0, .string ⟨sFalse.toArray⟩, .slice none 0 0]] V fun e w' => e = .returned (.bool true) ∧ Below V.heap.size V w') := fun V hb => (same_v (HT3.out.below hb) (tval_a V sFalse)).mono (by rintro e w' ⟨rfl, h⟩; exact ⟨by rw [same_fls]; rfl, h⟩)
            go_upto_region 11 with (fail)
            go_region_held3 (fun V => (V.cell? ⟨g6, 0, none⟩ = some (.int .i64 2) ∧ V.cell? ⟨g6, 1, none⟩ = some (.int .i64 0) ∧ V.cell? ⟨g6, 2, none⟩ = some (.string ⟨(sFalse).toArray⟩) ∧ V.cell? ⟨g6, 3, none⟩ = some (.slice A6 n6 c6)) ∧ Below V3.heap.size V3 V) (first | exact HKP.out _ H00.out | exact HKP.out _ (by assumption) | assumption) ((first
              | (go_at_call 17; refine (tatom_v _ _).mono ?_; rintro r V9 ⟨rfl, hb9⟩; have hP9 : Below V3.heap.size V3 V9 := below_step (And.right (by assumption)) hb9; clear hb9)
              | (go_at_call 11; refine (HS1.out _ (And.right (by assumption))).mono ?_; rintro r V9 ⟨rfl, hb9⟩; have hP9 : Below V3.heap.size V3 V9 := below_step (And.right (by assumption)) hb9; clear hb9)))
            rename_i hHeld9
            have hH9 := hHeld9.2
            clear hHeld9
            have H01 := Lib.hid hH9.drew
            clear hH9
            go_upto_region 13 with (fail)
            go_region_held3 (fun V => (V.cell? ⟨g6, 0, none⟩ = some (.int .i64 2) ∧ V.cell? ⟨g6, 1, none⟩ = some (.int .i64 0) ∧ V.cell? ⟨g6, 2, none⟩ = some (.string ⟨(sFalse).toArray⟩) ∧ V.cell? ⟨g6, 3, none⟩ = some (.slice A6 n6 c6)) ∧ Below V3.heap.size V3 V) (first | exact HKP.out _ H01.out | exact HKP.out _ (by assumption) | assumption) ((first
              | (go_at_call 17; refine (tatom_v _ _).mono ?_; rintro r V9 ⟨rfl, hb9⟩; have hP9 : Below V3.heap.size V3 V9 := below_step (And.right (by assumption)) hb9; clear hb9)
              | (go_at_call 11; refine (HS2.out _ (And.right (by assumption))).mono ?_; rintro r V9 ⟨rfl, hb9⟩; have hP9 : Below V3.heap.size V3 V9 := below_step (And.right (by assumption)) hb9; clear hb9)))
            rename_i hHeld9
            have hH9 := hHeld9.2
            clear hHeld9
            have hw := HW.out
            go_wp2
            go_roundw
            case rel => exact ⟨i + 1, by omega, by rw [HCN.out]; simp, by simp, HK3.out.keep hH9⟩
            case measure => simp; omega
    · obtain rfl : i = 7 := by omega
      have hd : decide ((7 : Int) < 7) = false := by simp
      rw [cnt_one HCK.out]
      clear hi7 hd
      obtain ⟨x, hx⟩ : ∃ x, t.items.getD 0 tZ = x := ⟨_, rfl⟩
      obtain ⟨y, hy⟩ : ∃ y, t.items.getD 1 tZ = y := ⟨_, rfl⟩
      by_cases hk : t.kind = 8
      · have HDH : Hid (doP [104, 100] [t] = (x, [])) := by rw [← hx]; show oneP [104, 100] t = _; simp [oneP, hk]
        have HDT : Hid (doP [116, 108] [t] = (y, [])) := by rw [← hy]; show oneP [116, 108] t = _; simp [oneP, hk]
        have HDC : Hid (doP [99, 111, 110, 115] [x, y] = (t, [])) := by
          obtain ⟨h1, h2⟩ := cons_of HCK.out hk
          rw [hx, hy] at h1
          show fitP (tC x y) = _
          rw [h1, fitP_yes h2]
        have HGX : Hid (GoodT x ∧ GoodT y) := by
          have h8 := (good_of HCK.out).cons hk
          have h9 : ∀ j, (h : j < t.items.length) → GoodT t.items[j] := fun j h => good_of (item_check HCK.out h)
          rw [← hx, ← hy, show t.items.getD 0 tZ = t.items[0] by simp [List.getD, h8], show t.items.getD 1 tZ = t.items[1] by simp [List.getD, h8]]
          exact ⟨h9 0 (by omega), h9 1 (by omega)⟩
        clear hk hx hy
        go_upto_region 16 with (go_at_call 9; refine (do1_at HK.out.val HG.out HDH.out (by simp)).mono ?_; rintro e w2 ⟨u, rfl, hT2, hb2⟩; obtain ⟨A8, n8, c8, rfl, hn8⟩ := hT2.form; clear hn8)
        obtain ⟨g8, hg8⟩ : ∃ g, w2.heap.size = g := ⟨_, rfl⟩
        rw [hg8]
        refine wp_world (fun V => KS w V gl #[.int .i64 t.kind, .int .i64 t.int, .string ⟨t.name.toArray⟩, .slice A n c] t ∧ Blk V g8 24 #[.int .i64 x.kind, .int .i64 x.int, .string ⟨x.name.toArray⟩, .slice A8 n8 c8] ∧ TVal V (.agg #[.int .i64 x.kind, .int .i64 x.int, .string ⟨x.name.toArray⟩, .slice A8 n8 c8]) x) ⟨(HK.out.keep hb2).keep (below_alloc _ _), by rw [← hg8]; exact Blk.new _ _ _, hT2.below (below_alloc _ _)⟩ ?_
        clear hg8 hT2 hb2 q0 q1 q2 q3
        rintro Va ⟨hka, hb8, ht8⟩
        have HKa := Lib.hid hka
        have HB8 := Lib.hid hb8
        have HT8 := Lib.hid ht8
        have q0 := hka.box.cell 0
        have q1 := hka.box.cell 1
        have q2 := hka.box.cell 2
        have q3 := hka.box.cell 3
        clear hka hb8 ht8
        go_upto_region 17 with (go_at_call 9; refine (do1_at HKa.out.val HG.out HDT.out (by simp)).mono ?_; rintro e w2 ⟨u, rfl, hT2, hb2⟩; obtain ⟨A10, n10, c10, rfl, hn10⟩ := hT2.form; clear hn10)
        obtain ⟨g10, hg10⟩ : ∃ g, w2.heap.size = g := ⟨_, rfl⟩
        rw [hg10]
        refine wp_world (fun V => KS w V gl #[.int .i64 t.kind, .int .i64 t.int, .string ⟨t.name.toArray⟩, .slice A n c] t ∧ Blk V g8 24 #[.int .i64 x.kind, .int .i64 x.int, .string ⟨x.name.toArray⟩, .slice A8 n8 c8] ∧ TVal V (.agg #[.int .i64 x.kind, .int .i64 x.int, .string ⟨x.name.toArray⟩, .slice A8 n8 c8]) x ∧ Blk V g10 24 #[.int .i64 y.kind, .int .i64 y.int, .string ⟨y.name.toArray⟩, .slice A10 n10 c10] ∧ TVal V (.agg #[.int .i64 y.kind, .int .i64 y.int, .string ⟨y.name.toArray⟩, .slice A10 n10 c10]) y) ⟨(HKa.out.keep hb2).keep (below_alloc _ _), (HB8.out.keep hb2).alloc _, (HT8.out.below hb2).below (below_alloc _ _), by rw [← hg10]; exact Blk.new _ _ _, hT2.below (below_alloc _ _)⟩ ?_
        clear hg10 hT2 hb2 q0 q1 q2 q3 HKa HB8 HT8
        rintro Vb ⟨hkb, hb8, ht8, hb10, ht10⟩
        have HKb := Lib.hid hkb
        have HT8 := Lib.hid ht8
        have HT10 := Lib.hid ht10
        have a0 := hb8.cell 0
        have a1 := hb8.cell 1
        have a2 := hb8.cell 2
        have a3 := hb8.cell 3
        have d0 := hb10.cell 0
        have d1 := hb10.cell 1
        have d2 := hb10.cell 2
        have d3 := hb10.cell 3
        clear hkb hb8 ht8 hb10 ht10
        go_upto_region 19 with (go_at_call 9; refine (do2_at HT8.out HT10.out HGX.out.1 HGX.out.2 HDC.out (by simp)).mono ?_; rintro e w2 ⟨u, rfl, hT2, hb2⟩; obtain ⟨A12, n12, c12, rfl, hn12⟩ := hT2.form; clear hn12)
        obtain ⟨g12, hg12⟩ : ∃ g, w2.heap.size = g := ⟨_, rfl⟩
        rw [hg12]
        refine wp_world (fun V => KS w V gl #[.int .i64 t.kind, .int .i64 t.int, .string ⟨t.name.toArray⟩, .slice A n c] t ∧ Blk V g12 24 #[.int .i64 t.kind, .int .i64 t.int, .string ⟨t.name.toArray⟩, .slice A12 n12 c12] ∧ TVal V (.agg #[.int .i64 t.kind, .int .i64 t.int, .string ⟨t.name.toArray⟩, .slice A12 n12 c12]) t) ⟨(HKb.out.keep hb2).keep (below_alloc _ _), by rw [← hg12]; exact Blk.new _ _ _, hT2.below (below_alloc _ _)⟩ ?_
        clear hg12 hT2 hb2 HKb HT8 HT10 a0 a1 a2 a3 d0 d1 d2 d3
        rintro Vc ⟨hkc, hb12, ht12⟩
        have HKc := Lib.hid hkc
        have q0 := hkc.box.cell 0
        have q1 := hkc.box.cell 1
        have q2 := hkc.box.cell 2
        have q3 := hkc.box.cell 3
        have a0 := hb12.cell 0
        have a1 := hb12.cell 1
        have a2 := hb12.cell 2
        have a3 := hb12.cell 3
        have HS1 := Lib.hid (same_v ht12 hkc.val)
        rw [show (t.cmp t == 0) = true by rw [cmp_same]; rfl] at HS1
        clear hkc hb12 ht12
        go_wp2_with (first
          | (go_at_call 11; refine HS1.out.mono ?_; rintro e w3 ⟨rfl, hb3⟩)
          | (go_at_call 8; refine (live_from (below_step HKc.out.bel hb3)).mono ?_; rintro e w9 ⟨rfl, hb9⟩))
        go_ret
        exact ⟨rfl, hb9⟩
      · have HDH : Hid (doP [104, 100] [t] = (tZ, sArg)) := by show oneP [104, 100] t = _; simp [oneP, hk]
        have HDT : Hid (doP [116, 108] [t] = (tZ, sArg)) := by show oneP [116, 108] t = _; simp [oneP, hk]
        have harg : sArg = [98, 97, 100, 97, 114, 103] := rfl
        clear hk hx hy
        go_upto_region 16 with (go_at_call 9; refine (do1_at HK.out.val HG.out HDH.out (by simp)).mono ?_; rintro e w2 ⟨u, rfl, hT2, hb2⟩; obtain ⟨A8, n8, c8, rfl, hn8⟩ := hT2.form; clear hn8)
        refine wp_world (fun V => KS w V gl #[.int .i64 t.kind, .int .i64 t.int, .string ⟨t.name.toArray⟩, .slice A n c] t) ((HK.out.keep hb2).keep (below_alloc _ _)) ?_
        clear hT2 hb2 q0 q1 q2 q3
        intro Va hka
        have HKa := Lib.hid hka
        have q0 := hka.box.cell 0
        have q1 := hka.box.cell 1
        have q2 := hka.box.cell 2
        have q3 := hka.box.cell 3
        clear hka
        go_upto_region 17 with (go_at_call 9; refine (do1_at HKa.out.val HG.out HDT.out (by simp)).mono ?_; rintro e w2 ⟨u, rfl, hT2, hb2⟩; obtain ⟨A10, n10, c10, rfl, hn10⟩ := hT2.form; clear hn10)
        refine wp_world (fun V => KS w V gl #[.int .i64 t.kind, .int .i64 t.int, .string ⟨t.name.toArray⟩, .slice A n c] t) ((HKa.out.keep hb2).keep (below_alloc _ _)) ?_
        clear hT2 hb2 q0 q1 q2 q3 HKa
        intro Vb hkb
        have HKb := Lib.hid hkb
        clear hkb
        go_wp2_with (go_at_call 8; refine (live_from HKb.out.bel).mono ?_; rintro e w9 ⟨rfl, hb9⟩)
        go_ret
        exact ⟨rfl, hb9⟩
end
end Go.Proofs.Ytbpnlpjbjmojfaa
