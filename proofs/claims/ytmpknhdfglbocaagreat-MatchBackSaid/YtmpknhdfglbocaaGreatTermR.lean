/- Terms (recursive data) in memory: words and laws. No function of the program is named here. The walks of the term package's count and Size. The walks of the term package's is, Check, Size. The walks of the term package's is, Check, Size, gone on with (written by termisgen.py). The term package's is, Check, Size: their contracts. The walks of the reference's left, Size, Fits of layer 7. -/
import Derived.Test.YtmpknhdfglbocaaGreatFr
import Derived.Test.YtmpknhdfglbocaaGreatProg
import Derived.StillTailTactics
import Derived.Deep.QuietTactic
import Derived.BigQuiet
import Derived.Outline
import Derived.Deep.Cut
import Derived.Deep.DeepMust
import Derived.IntWalk
import Derived.Deep.RegionHeld3
import Derived.RegionTactic
import Derived.BigRegion
namespace Go.Proofs.YtmpknhdfglbocaaGreat
section
open Go.RowKit
set_option linter.unusedVariables false

/-- A term: kind, number, name, items. -/
inductive TV where
  | mk (kind int : Int) (name : List UInt8) (items : List TV)

def TV.kind : TV → Int | .mk k _ _ _ => k
def TV.int : TV → Int | .mk _ n _ _ => n
def TV.name : TV → List UInt8 | .mk _ _ s _ => s
def TV.items : TV → List TV | .mk _ _ _ l => l

mutual
/-- How many parts a term has. -/
def TV.parts : TV → Nat
  | .mk _ _ _ l => TV.partsL l + 1
def TV.partsL : List TV → Nat
  | [] => 0
  | t :: r => t.parts + TV.partsL r
end

mutual
/-- A term in memory, at four cells. -/
def TV.At (W : World) : TV → Nat → Nat → Prop
  | .mk k n s l, b, o => W.cell? ⟨b, o, none⟩ = some (.int .i64 k) ∧ W.cell? ⟨b, o + 1, none⟩ = some (.int .i64 n) ∧ W.cell? ⟨b, o + 2, none⟩ = some (.string ⟨s.toArray⟩) ∧
      ∃ A c, W.cell? ⟨b, o + 3, none⟩ = some (.slice A l.length c) ∧ l.length ≤ c ∧ c ≤ 9223372036854775807 ∧ (l = [] ∨ ∃ b' o', A = some ⟨b', o', none⟩ ∧ TV.Row W l b' o')
def TV.Row (W : World) : List TV → Nat → Nat → Prop
  | [], _, _ => True
  | t :: r, b, o => t.At W b o ∧ TV.Row W r b (o + 4)
end

/-- A slice with the address A and the capacity c reads as these terms. -/
def RdM (W : World) (A : Option Addr) (c : Nat) (l : List TV) : Prop := l.length ≤ c ∧ c ≤ 9223372036854775807 ∧ (l = [] ∨ ∃ b o, A = some ⟨b, o, none⟩ ∧ TV.Row W l b o)

theorem TV.parts_pos (t : TV) : 1 ≤ t.parts := by cases t; simp [TV.parts]
theorem TV.parts_eq (t : TV) : t.parts = TV.partsL t.items + 1 := by cases t; simp [TV.parts, TV.items]
theorem partsL_append (l m : List TV) : TV.partsL (l ++ m) = TV.partsL l + TV.partsL m := by
  induction l with
  | nil => simp [TV.partsL]
  | cons t r ih => simp [TV.partsL, ih]; omega
theorem partsL_take (l : List TV) (k : Nat) (h : k < l.length) : TV.partsL (l.take (k + 1)) = TV.partsL (l.take k) + l[k].parts := by
  rw [List.take_succ_eq_append_getElem h, partsL_append]
  simp [TV.partsL]
theorem partsL_take_le (l : List TV) (k : Nat) : TV.partsL (l.take k) ≤ TV.partsL l := by
  conv => rhs; rw [← List.take_append_drop k l, partsL_append]
  omega
theorem parts_item (l : List TV) (k : Nat) (h : k < l.length) : l[k].parts ≤ TV.partsL l := by
  have h1 := partsL_take l k h
  have h2 := partsL_take_le l (k + 1)
  omega
theorem len_parts (l : List TV) : l.length ≤ TV.partsL l := by
  induction l with
  | nil => simp [TV.partsL]
  | cons t r ih => simp [TV.partsL]; have := t.parts_pos; omega

section
variable {W W' : World}
theorem TV.at_iff (t : TV) (b o : Nat) : t.At W b o ↔ W.cell? ⟨b, o, none⟩ = some (.int .i64 t.kind) ∧ W.cell? ⟨b, o + 1, none⟩ = some (.int .i64 t.int) ∧ W.cell? ⟨b, o + 2, none⟩ = some (.string ⟨t.name.toArray⟩) ∧ ∃ A c, W.cell? ⟨b, o + 3, none⟩ = some (.slice A t.items.length c) ∧ RdM W A c t.items := by
  cases t with
  | mk k n s l => simp only [TV.At, TV.kind, TV.int, TV.name, TV.items, RdM]
theorem row_at : ∀ {l : List TV} {b o : Nat}, TV.Row W l b o → ∀ {k : Nat} (h : k < l.length), l[k].At W b (o + k * 4)
  | [], _, _, _, _, h => by simp at h
  | t :: r, b, o, hr, 0, _ => by
    simp only [TV.Row] at hr
    simpa using hr.1
  | t :: r, b, o, hr, k + 1, h => by
    simp only [TV.Row] at hr
    have := row_at hr.2 (k := k) (by simpa using h)
    rw [show o + (k + 1) * 4 = o + 4 + k * 4 by omega]
    simpa using this
theorem row_of : ∀ {l : List TV} {b o : Nat}, (∀ k (h : k < l.length), l[k].At W b (o + k * 4)) → TV.Row W l b o
  | [], _, _, _ => by simp [TV.Row]
  | t :: r, b, o, h => by
    simp only [TV.Row]
    refine ⟨h 0 (Nat.succ_pos _), row_of fun k hk => ?_⟩
    have := h (k + 1) (by simpa using hk)
    rw [show o + (k + 1) * 4 = o + 4 + k * 4 by omega] at this
    simpa using this

/-- What was there and is there still. -/
def Kept (W W' : World) : Prop := ∀ p : Addr, (W.cell? p).isSome → W'.cell? p = W.cell? p
theorem Kept.of_below (hb : Below W.heap.size W W') : Kept W W' := fun p h => by
  obtain ⟨v, hv⟩ := Option.isSome_iff_exists.1 h
  exact hb.cell (World.block_lt_of_cell? W p hv)
theorem Kept.some (h : Kept W W') {p : Addr} {v : Value} (hv : W.cell? p = some v) : W'.cell? p = some v := (h p (by rw [hv]; rfl)).trans hv

mutual
theorem TV.At.kept (h : Kept W W') : ∀ (t : TV) (b o : Nat), t.At W b o → t.At W' b o
  | .mk k n s l, b, o, ha => by
    simp only [TV.At] at ha ⊢
    obtain ⟨h0, h1, h2, A, c, h3, h4, h5, h6⟩ := ha
    refine ⟨h.some h0, h.some h1, h.some h2, A, c, h.some h3, h4, h5, ?_⟩
    rcases h6 with h6 | ⟨b', o', hA, hr⟩
    · exact .inl h6
    · exact .inr ⟨b', o', hA, TV.Row.kept h l b' o' hr⟩
theorem TV.Row.kept (h : Kept W W') : ∀ (l : List TV) (b o : Nat), TV.Row W l b o → TV.Row W' l b o
  | [], _, _, _ => by simp [TV.Row]
  | t :: r, b, o, hr => by
    simp only [TV.Row] at hr ⊢
    exact ⟨TV.At.kept h t b o hr.1, TV.Row.kept h r b (o + 4) hr.2⟩
end
theorem RdM.kept {A : Option Addr} {c : Nat} {l : List TV} (h : RdM W A c l) (hk : Kept W W') : RdM W' A c l := by
  refine ⟨h.1, h.2.1, ?_⟩
  rcases h.2.2 with h | ⟨b, o, hA, hr⟩
  · exact .inl h
  · exact .inr ⟨b, o, hA, TV.Row.kept hk l b o hr⟩
theorem RdM.below {A : Option Addr} {c : Nat} {l : List TV} (h : RdM W A c l) (hb : Below W.heap.size W W') : RdM W' A c l := h.kept (.of_below hb)
theorem RdM.at_ {A : Option Addr} {c : Nat} {l : List TV} (h : RdM W A c l) {k : Nat} (hk : k < l.length) : ∃ b o, A = some ⟨b, o, none⟩ ∧ l[k].At W b (o + k * 4) := by
  rcases h.2.2 with rfl | ⟨b, o, hA, hr⟩
  · simp at hk
  · exact ⟨b, o, hA, row_at hr hk⟩
/-- An item, read. -/
theorem RdM.item {A : Option Addr} {c : Nat} {l : List TV} (h : RdM W A c l) {k : Nat} (hk : k < l.length) : ∃ b o A' c', A = some ⟨b, o, none⟩ ∧ W.cell? ⟨b, o + k * 4, none⟩ = some (.int .i64 l[k].kind) ∧ W.cell? ⟨b, o + k * 4 + 1, none⟩ = some (.int .i64 l[k].int) ∧ W.cell? ⟨b, o + k * 4 + 2, none⟩ = some (.string ⟨l[k].name.toArray⟩) ∧ W.cell? ⟨b, o + k * 4 + 3, none⟩ = some (.slice A' l[k].items.length c') ∧ RdM W A' c' l[k].items := by
  obtain ⟨b, o, hA, ha⟩ := h.at_ hk
  obtain ⟨h0, h1, h2, A', c', h3, h4⟩ := (TV.at_iff _ _ _).1 ha
  exact ⟨b, o, A', c', hA, h0, h1, h2, h3, h4⟩
end
end
section
open Go.RowKit
set_option linter.unusedVariables false

end
section
open Go.RowKit
set_option linter.unusedVariables false

/-- Is it a term, but for its items? -/
def headB (k n : Int) (s : List UInt8) (len : Nat) : Bool :=
  if k = 1 then decide (-576460752303423488 ≤ n) && decide (n ≤ 576460752303423487) && decide (len = 0) && decide (s = [])
  else if k = 2 then decide (s ≠ []) && decide (s.length ≤ 255) && decide (len = 0) && decide (n = 0)
  else if k = 3 ∨ k = 5 then decide (0 ≤ n) && decide (n ≤ 576460752303423487) && decide (len = 0) && decide (s = [])
  else if k = 4 then decide (0 ≤ n) && decide (n ≤ 576460752303423487) && decide (s = [])
  else if k = 6 then decide (n = 0) && decide (s = [])
  else if k = 7 then decide (len = 0) && decide (n = 0) && decide (s = [])
  else if k = 8 then decide (len = 2) && decide (n = 0) && decide (s = [])
  else false
mutual
def TV.isT : TV → Bool
  | .mk k n s l => headB k n s l.length && TV.isL l
def TV.isL : List TV → Bool
  | [] => true
  | t :: r => t.isT && TV.isL r
end
theorem isL_append (l m : List TV) : TV.isL (l ++ m) = (TV.isL l && TV.isL m) := by
  induction l with
  | nil => simp [TV.isL]
  | cons t r ih => simp [TV.isL, ih, Bool.and_assoc]
theorem isL_take (l : List TV) (k : Nat) (h : k < l.length) : TV.isL (l.take (k + 1)) = (TV.isL (l.take k) && l[k].isT) := by
  rw [List.take_succ_eq_append_getElem h, isL_append]
  simp [TV.isL]
theorem isL_no (l : List TV) (k : Nat) (h : k < l.length) (hf : l[k].isT = false) : TV.isL l = false := by
  rw [← List.take_append_drop (k + 1) l, isL_append, isL_take l k h, hf]
  simp
end
section
open Go.RowKit
set_option linter.unusedVariables false

/-- A term's box, and the box beside it. -/
structure IS (W : World) (box wb : Array Value) (V : World) : Prop where
  t : Blk V W.heap.size 35 box
  w : Blk V (W.heap.size + 1) 35 wb
  bel : Below W.heap.size W V
theorem IS.drew {W V : World} {box wb : Array Value} (h : IS W box wb V) : IS W box wb V.drew := ⟨h.t.keep (Below.refl _ _).drew, h.w.keep (Below.refl _ _).drew, h.bel.drew⟩
theorem IS.set {W V : World} {box wb : Array Value} (h : IS W box wb V) (i : Nat) (v : Value) : IS W box (wb.setIfInBounds i v) (V.setCell ⟨W.heap.size + 1, i, none⟩ v) :=
  ⟨h.t.far (p := ⟨W.heap.size + 1, i, none⟩) (by show W.heap.size ≠ W.heap.size + 1; omega) v, h.w.set_ i v, h.bel.setCell (p := ⟨W.heap.size + 1, i, none⟩) (by show W.heap.size ≤ W.heap.size + 1; omega) v⟩
theorem IS.new (W : World) (box wb : Array Value) : IS W box wb ((W.alloc (.cells box 35)).alloc (.cells wb 35)).drew := by
  refine IS.drew ⟨(Blk.new W _ _).alloc _, ?_, below_step (below_alloc _ _) (below_alloc _ _)⟩
  have := Blk.new (W.alloc (.cells box 35)) 35 wb
  simpa using this
def IsEnds (W : World) (k n : Int) (s : List UInt8) (len : Nat) (b : Bool) (e : Ending) (w' : World) : Prop := e = .returned (.bool (headB k n s len && b)) ∧ Below W.heap.size W w'
end
section
open Go.RowKit
set_option linter.unusedVariables false

mutual
/-- No name in a term is longer than may be. -/
def TV.named : TV → Prop
  | .mk _ _ s l => s.length ≤ 140737488351232 ∧ TV.namedL l
def TV.namedL : List TV → Prop
  | [] => True
  | t :: r => t.named ∧ TV.namedL r
end
theorem namedL_at : ∀ {l : List TV}, TV.namedL l → ∀ {k : Nat} (h : k < l.length), l[k].named
  | [], _, _, h => by simp at h
  | t :: r, hn, 0, _ => by simp only [TV.namedL] at hn; exact hn.1
  | t :: r, hn, k + 1, h => by simp only [TV.namedL] at hn; exact namedL_at hn.2 (by simpa using h)
theorem TV.named_iff (t : TV) : t.named ↔ t.name.length ≤ 140737488351232 ∧ TV.namedL t.items := by cases t; simp [TV.named, TV.name, TV.items]
theorem TV.isT_eq (t : TV) : t.isT = (headB t.kind t.int t.name t.items.length && TV.isL t.items) := by cases t; simp [TV.isT, TV.kind, TV.int, TV.name, TV.items]

/-- Check, as a function. -/
def checkP (l : List TV) : Nat := if TV.partsL l ≤ 4096 then (if TV.isL l then 0 else 70) else 6
end
section
open Go.RowKit
set_option linter.unusedVariables false

/-- What is left of a number behind parts. -/
def leftI (m : Int) (p : Nat) : Int := if (p : Int) ≤ m then m - p else -1
theorem leftI_succ (n : Int) (q : Nat) (hn : 0 ≤ n) : leftI n (q + 1) = leftI (n - 1) q := by
  unfold leftI
  by_cases h : (q : Int) ≤ n - 1
  · rw [if_pos (by omega), if_pos h]; omega
  · rw [if_neg (by omega), if_neg h]
theorem leftI_bd (m : Int) (p : Nat) (hm : -1 ≤ m) : -1 ≤ leftI m p ∧ leftI m p ≤ m := by
  unfold leftI
  split <;> omega
theorem leftI_add (m : Int) (p q : Nat) (h : 0 ≤ leftI m p) : leftI m (p + q) = leftI (leftI m p) q := by
  unfold leftI at h ⊢
  split at h
  · rename_i h1
    rw [if_pos h1]
    by_cases h2 : ((p + q : Nat) : Int) ≤ m
    · rw [if_pos h2, if_pos (by omega)]; omega
    · rw [if_neg h2, if_neg (by omega)]
  · omega
theorem leftI_neg (m : Int) (p q : Nat) (hpq : p ≤ q) (h : leftI m p < 0) : leftI m q = -1 := by
  unfold leftI at h ⊢
  split at h
  · omega
  · rename_i h1
    rw [if_neg (by omega)]

set_option maxRecDepth 100000 in
set_option maxHeartbeats 2000000 in
theorem left_any (N : Nat) : ∀ (t : TV) (A : Option Addr) (c : Nat) (n : Int) (w0 W : World), t.parts ≤ N → 0 ≤ n → n ≤ 1000000 → Below w0.heap.size w0 W → RdM w0 A c t.items →
    Calls Tryz.prog 55 #[.agg #[.int .i64 t.kind, .int .i64 t.int, .string ⟨t.name.toArray⟩, .slice A t.items.length c], .int .i64 n] W fun e w' => e = .returned (.int .i64 (leftI n t.parts)) ∧ Below W.heap.size W w' := by
  induction N with
  | zero => intro t A c n w0 W ht; have := t.parts_pos; omega
  | succ N ih =>
    intro t A c n w0 W ht hn0 hn1 hW hR
    have hpe := t.parts_eq
    have HRES := Lib.hid (show leftI n t.parts = leftI (n - 1) (TV.partsL t.items) by rw [hpe]; exact leftI_succ n _ hn0)
    obtain ⟨k0, n0, s0, l, ht0⟩ : ∃ k0 n0 s0 l, t = TV.mk k0 n0 s0 l := by cases t; exact ⟨_, _, _, _, rfl⟩
    subst ht0
    simp only [TV.kind, TV.int, TV.name, TV.items] at hR hpe HRES ⊢
    obtain ⟨len, hlen⟩ : ∃ len, l.length = len := ⟨_, rfl⟩
    have HLEN := Lib.hid hlen
    have hlc : len ≤ 9223372036854775807 := by have := hR.1; have := hR.2.1; omega
    rw [hlen]
    generalize (TV.mk k0 n0 s0 l).parts = P at *
    have HPE := Lib.hid hpe
    clear hlen hpe
    go_enter Tryz.func55, Tryz.ntmps55
    go_upto_region 3 with (fail)
    refine wp_world (fun V => Blk V W.heap.size 35 #[.int .i64 k0, .int .i64 n0, .string ⟨s0.toArray⟩, .slice A len c] ∧ Below W.heap.size W V) ⟨Blk.new _ _ _, below_alloc _ _⟩ ?_
    rintro V1 ⟨hB1, hb1⟩
    go_loopw [1, 5] (fun v i wr => ∃ k : Nat, k ≤ len ∧ i = .int .i64 k ∧ v = .int .i64 (leftI (n - 1) (TV.partsL (l.take k))) ∧ Blk wr W.heap.size 35 #[.int .i64 k0, .int .i64 n0, .string ⟨s0.toArray⟩, .slice A len c] ∧ Below W.heap.size W wr) (fun _ i _ => len - (intOf i).toNat)
    case atStart => exact ⟨0, Nat.zero_le _, rfl, by simp [TV.partsL, leftI]; omega, hB1, hb1⟩
    case round =>
      obtain ⟨k, hk, rfl, rfl, hBr, hb⟩ := hrel
      clear hB1 hb1
      have hbr := below_step hW hb
      have t3 := hBr.cell 3
      have hlb := leftI_bd (n - 1) (TV.partsL (l.take k)) (by omega)
      obtain ⟨m, hm⟩ : ∃ m, leftI (n - 1) (TV.partsL (l.take k)) = m := ⟨_, rfl⟩
      rw [hm] at hlb ⊢
      have HMM := Lib.hid hm
      by_cases hlt : k < len
      · have hkl : k < l.length := by rw [HLEN.out]; exact hlt
        have hd2 : decide (k < len) = true := by simp; omega
        by_cases hneg : m < 0
        · have hd3 : decide (0 ≤ m) = false := by simp; omega
          have HR2 := Lib.hid (leftI_neg (n - 1) _ _ (partsL_take_le l k) (by rw [hm]; exact hneg))
          have HM1 := Lib.hid (show m = -1 by omega)
          clear hm hkl
          go_wp2_with (fail)
          go_ret
          exact ⟨by rw [HRES.out, HR2.out, HM1.out]; rfl, hb⟩
        · have hd3 : decide (0 ≤ m) = true := by simp; omega
          obtain ⟨b, o, A', c', rfl, h0, h1, h2, h3, hR'⟩ := hR.item hkl
          have hpt := partsL_take l k hkl
          have hpi := parts_item l k hkl
          have e0 := (hbr.cell (World.block_lt_of_cell? w0 _ h0)).trans h0
          have e1 := (hbr.cell (World.block_lt_of_cell? w0 _ h1)).trans h1
          have e2 := (hbr.cell (World.block_lt_of_cell? w0 _ h2)).trans h2
          have e3 := (hbr.cell (World.block_lt_of_cell? w0 _ h3)).trans h3
          have HIH := Lib.hid (ih l[k] A' c' m w0 wr (by have := HPE.out; omega) (by omega) (by omega) hbr hR')
          have HNX := Lib.hid (show leftI (n - 1) (TV.partsL (l.take (k + 1))) = leftI m l[k].parts by rw [hpt, leftI_add _ _ _ (by rw [hm]; omega), hm])
          generalize l[k] = ti at *
          obtain ⟨tp, htp⟩ : ∃ tp, ti.parts = tp := ⟨_, rfl⟩
          rw [htp] at HIH HNX
          generalize ti.items.length = tl at *
          have q1 : (0 : Int) ≤ (k : Int) := by omega
          have q2 : (k : Int) < (len : Int) := by omega
          clear h0 h1 h2 h3 hpt hpi htp hkl hR' hm
          go_wp2_with (go_at_call 55; refine HIH.out.mono ?_; rintro e w5 ⟨rfl, hb5⟩)
          go_roundw
          case rel => exact ⟨k + 1, by omega, by go_num, by rw [HNX.out], hBr.keep hb5, below_step hb hb5⟩
          case measure => simp [intOf]; omega
      · obtain rfl : k = len := by omega
        have hd2 : decide (k < k) = false := by simp
        rw [List.take_of_length_le (by rw [HLEN.out]; exact Nat.le_refl _)] at hm
        have HM2 := Lib.hid hm
        clear hm
        go_wp2_with (fail)
        go_ret
        exact ⟨by rw [HRES.out, HM2.out]; rfl, hb⟩

set_option maxRecDepth 100000 in
set_option maxHeartbeats 2000000 in
theorem fits_any (l : List TV) (A : Option Addr) (len c : Nat) (n : Int) (w0 W : World) (hlen : l.length = len) (hn0 : 0 ≤ n) (hn1 : n ≤ 1000000) (hW : Below w0.heap.size w0 W) (hR : RdM w0 A c l) :
    Calls Tryz.prog 36 #[.slice A len c, .int .i64 n] W fun e w' => e = .returned (.bool (decide ((TV.partsL l : Int) ≤ n))) ∧ Below W.heap.size W w' := by
  have HLEN := Lib.hid hlen
  have hlc : len ≤ 9223372036854775807 := by have := hR.1; have := hR.2.1; omega
  have HRES := Lib.hid (show decide (0 ≤ leftI n (TV.partsL l)) = decide ((TV.partsL l : Int) ≤ n) by
    unfold leftI
    by_cases h : ((TV.partsL l : Nat) : Int) ≤ n
    · rw [if_pos h]; simp
    · rw [if_neg h]; simp [h])
  clear hlen
  go_enter Tryz.func36, Tryz.ntmps36
  go_upto_region 2 with (fail)
  go_loopw [1, 5] (fun v i wr => ∃ k : Nat, k ≤ len ∧ i = .int .i64 k ∧ v = .int .i64 (leftI n (TV.partsL (l.take k))) ∧ Below W.heap.size W wr) (fun _ i _ => len - (intOf i).toNat)
  case atStart => exact ⟨0, Nat.zero_le _, rfl, by simp [TV.partsL, leftI]; omega, Below.refl _ _⟩
  case round =>
    obtain ⟨k, hk, rfl, rfl, hb⟩ := hrel
    have hbr := below_step hW hb
    have hlb := leftI_bd n (TV.partsL (l.take k)) (by omega)
    obtain ⟨m, hm⟩ : ∃ m, leftI n (TV.partsL (l.take k)) = m := ⟨_, rfl⟩
    rw [hm] at hlb ⊢
    have HMM := Lib.hid hm
    by_cases hlt : k < len
    · have hkl : k < l.length := by rw [HLEN.out]; exact hlt
      have hd2 : decide (k < len) = true := by simp; omega
      by_cases hneg : m < 0
      · have hd3 : decide (0 ≤ m) = false := by simp; omega
        have HR2 := Lib.hid (leftI_neg n _ _ (partsL_take_le l k) (by rw [hm]; exact hneg))
        clear hm hkl
        go_wp2_with (fail)
        go_ret
        exact ⟨by rw [← HRES.out, HR2.out]; rfl, hb⟩
      · have hd3 : decide (0 ≤ m) = true := by simp; omega
        obtain ⟨b, o, A', c', rfl, h0, h1, h2, h3, hR'⟩ := hR.item hkl
        have hpt := partsL_take l k hkl
        have e0 := (hbr.cell (World.block_lt_of_cell? w0 _ h0)).trans h0
        have e1 := (hbr.cell (World.block_lt_of_cell? w0 _ h1)).trans h1
        have e2 := (hbr.cell (World.block_lt_of_cell? w0 _ h2)).trans h2
        have e3 := (hbr.cell (World.block_lt_of_cell? w0 _ h3)).trans h3
        have HIH := Lib.hid (left_any l[k].parts l[k] A' c' m w0 wr (Nat.le_refl _) (by omega) (by omega) hbr hR')
        have HNX := Lib.hid (show leftI n (TV.partsL (l.take (k + 1))) = leftI m l[k].parts by rw [hpt, leftI_add _ _ _ (by rw [hm]; omega), hm])
        generalize l[k] = ti at *
        obtain ⟨tp, htp⟩ : ∃ tp, ti.parts = tp := ⟨_, rfl⟩
        rw [htp] at HIH HNX
        generalize ti.items.length = tl at *
        have q1 : (0 : Int) ≤ (k : Int) := by omega
        have q2 : (k : Int) < (len : Int) := by omega
        clear h0 h1 h2 h3 hpt htp hkl hR' hm
        go_wp2_with (go_at_call 55; refine HIH.out.mono ?_; rintro e w5 ⟨rfl, hb5⟩)
        go_roundw
        case rel => exact ⟨k + 1, by omega, by go_num, by rw [HNX.out], below_step hb hb5⟩
        case measure => simp [intOf]; omega
    · obtain rfl : k = len := by omega
      have hd2 : decide (k < k) = false := by simp
      rw [List.take_of_length_le (by rw [HLEN.out]; exact Nat.le_refl _)] at hm
      have HM2 := Lib.hid hm
      clear hm
      go_wp2_with (fail)
      go_ret
      exact ⟨by rw [← HRES.out, HM2.out]; rfl, hb⟩
end
end Go.Proofs.YtmpknhdfglbocaaGreat
