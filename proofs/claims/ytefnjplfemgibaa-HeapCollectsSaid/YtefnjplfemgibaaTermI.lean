/- Terms (recursive data) in memory: words and laws. No function of the program is named here. The walks of the term package's count and Size. The walks of the term package's is, Check, Size. -/
import Derived.Test.YtefnjplfemgibaaFr
import Derived.Test.YtefnjplfemgibaaProg
import Derived.StillTailTactics
import Derived.Deep.QuietTactic
import Derived.BigQuiet
import Derived.Outline
import Derived.Deep.Cut
import Derived.Deep.DeepMust
import Derived.IntWalk
import Derived.Deep.RegionHeld3
namespace Go.Proofs.Ytefnjplfemgibaa
section
open Go.RowKit
set_option linter.unusedVariables false

/-- A term: kind, number, name, items. -/
inductive TV where
  | mk (kind int : Int) (name : List UInt8) (items : List TV)

def TV.kind : TV → Int | .mk k _ _ _ => k
def TV.int : TV → Int | .mk _ n _ _ => n
def TV.name : TV → List UInt8 | .mk _ _ s _ => s
def TV.items : TV → List TV | .mk _ _ _ l => l

mutual
/-- How many parts a term has. -/
def TV.parts : TV → Nat
  | .mk _ _ _ l => TV.partsL l + 1
def TV.partsL : List TV → Nat
  | [] => 0
  | t :: r => t.parts + TV.partsL r
end

mutual
/-- A term in memory, at four cells. -/
def TV.At (W : World) : TV → Nat → Nat → Prop
  | .mk k n s l, b, o => W.cell? ⟨b, o, none⟩ = some (.int .i64 k) ∧ W.cell? ⟨b, o + 1, none⟩ = some (.int .i64 n) ∧ W.cell? ⟨b, o + 2, none⟩ = some (.string ⟨s.toArray⟩) ∧
      ∃ A c, W.cell? ⟨b, o + 3, none⟩ = some (.slice A l.length c) ∧ l.length ≤ c ∧ c ≤ 9223372036854775807 ∧ (l = [] ∨ ∃ b' o', A = some ⟨b', o', none⟩ ∧ TV.Row W l b' o')
def TV.Row (W : World) : List TV → Nat → Nat → Prop
  | [], _, _ => True
  | t :: r, b, o => t.At W b o ∧ TV.Row W r b (o + 4)
end

/-- A slice with the address A and the capacity c reads as these terms. -/
def RdM (W : World) (A : Option Addr) (c : Nat) (l : List TV) : Prop := l.length ≤ c ∧ c ≤ 9223372036854775807 ∧ (l = [] ∨ ∃ b o, A = some ⟨b, o, none⟩ ∧ TV.Row W l b o)

theorem TV.parts_pos (t : TV) : 1 ≤ t.parts := by cases t; simp [TV.parts]
theorem TV.parts_eq (t : TV) : t.parts = TV.partsL t.items + 1 := by cases t; simp [TV.parts, TV.items]
theorem partsL_append (l m : List TV) : TV.partsL (l ++ m) = TV.partsL l + TV.partsL m := by
  induction l with
  | nil => simp [TV.partsL]
  | cons t r ih => simp [TV.partsL, ih]; omega
theorem partsL_take (l : List TV) (k : Nat) (h : k < l.length) : TV.partsL (l.take (k + 1)) = TV.partsL (l.take k) + l[k].parts := by
  rw [List.take_succ_eq_append_getElem h, partsL_append]
  simp [TV.partsL]
theorem partsL_take_le (l : List TV) (k : Nat) : TV.partsL (l.take k) ≤ TV.partsL l := by
  conv => rhs; rw [← List.take_append_drop k l, partsL_append]
  omega
theorem parts_item (l : List TV) (k : Nat) (h : k < l.length) : l[k].parts ≤ TV.partsL l := by
  have h1 := partsL_take l k h
  have h2 := partsL_take_le l (k + 1)
  omega
theorem len_parts (l : List TV) : l.length ≤ TV.partsL l := by
  induction l with
  | nil => simp [TV.partsL]
  | cons t r ih => simp [TV.partsL]; have := t.parts_pos; omega

section
variable {W W' : World}
theorem TV.at_iff (t : TV) (b o : Nat) : t.At W b o ↔ W.cell? ⟨b, o, none⟩ = some (.int .i64 t.kind) ∧ W.cell? ⟨b, o + 1, none⟩ = some (.int .i64 t.int) ∧ W.cell? ⟨b, o + 2, none⟩ = some (.string ⟨t.name.toArray⟩) ∧ ∃ A c, W.cell? ⟨b, o + 3, none⟩ = some (.slice A t.items.length c) ∧ RdM W A c t.items := by
  cases t with
  | mk k n s l => simp only [TV.At, TV.kind, TV.int, TV.name, TV.items, RdM]
theorem row_at : ∀ {l : List TV} {b o : Nat}, TV.Row W l b o → ∀ {k : Nat} (h : k < l.length), l[k].At W b (o + k * 4)
  | [], _, _, _, _, h => by simp at h
  | t :: r, b, o, hr, 0, _ => by
    simp only [TV.Row] at hr
    simpa using hr.1
  | t :: r, b, o, hr, k + 1, h => by
    simp only [TV.Row] at hr
    have := row_at hr.2 (k := k) (by simpa using h)
    rw [show o + (k + 1) * 4 = o + 4 + k * 4 by omega]
    simpa using this
theorem row_of : ∀ {l : List TV} {b o : Nat}, (∀ k (h : k < l.length), l[k].At W b (o + k * 4)) → TV.Row W l b o
  | [], _, _, _ => by simp [TV.Row]
  | t :: r, b, o, h => by
    simp only [TV.Row]
    refine ⟨h 0 (Nat.succ_pos _), row_of fun k hk => ?_⟩
    have := h (k + 1) (by simpa using hk)
    rw [show o + (k + 1) * 4 = o + 4 + k * 4 by omega] at this
    simpa using this

/-- What was there and is there still. -/
def Kept (W W' : World) : Prop := ∀ p : Addr, (W.cell? p).isSome → W'.cell? p = W.cell? p
theorem Kept.of_below (hb : Below W.heap.size W W') : Kept W W' := fun p h => by
  obtain ⟨v, hv⟩ := Option.isSome_iff_exists.1 h
  exact hb.cell (World.block_lt_of_cell? W p hv)
theorem Kept.some (h : Kept W W') {p : Addr} {v : Value} (hv : W.cell? p = some v) : W'.cell? p = some v := (h p (by rw [hv]; rfl)).trans hv

mutual
theorem TV.At.kept (h : Kept W W') : ∀ (t : TV) (b o : Nat), t.At W b o → t.At W' b o
  | .mk k n s l, b, o, ha => by
    simp only [TV.At] at ha ⊢
    obtain ⟨h0, h1, h2, A, c, h3, h4, h5, h6⟩ := ha
    refine ⟨h.some h0, h.some h1, h.some h2, A, c, h.some h3, h4, h5, ?_⟩
    rcases h6 with h6 | ⟨b', o', hA, hr⟩
    · exact .inl h6
    · exact .inr ⟨b', o', hA, TV.Row.kept h l b' o' hr⟩
theorem TV.Row.kept (h : Kept W W') : ∀ (l : List TV) (b o : Nat), TV.Row W l b o → TV.Row W' l b o
  | [], _, _, _ => by simp [TV.Row]
  | t :: r, b, o, hr => by
    simp only [TV.Row] at hr ⊢
    exact ⟨TV.At.kept h t b o hr.1, TV.Row.kept h r b (o + 4) hr.2⟩
end
theorem RdM.kept {A : Option Addr} {c : Nat} {l : List TV} (h : RdM W A c l) (hk : Kept W W') : RdM W' A c l := by
  refine ⟨h.1, h.2.1, ?_⟩
  rcases h.2.2 with h | ⟨b, o, hA, hr⟩
  · exact .inl h
  · exact .inr ⟨b, o, hA, TV.Row.kept hk l b o hr⟩
theorem RdM.below {A : Option Addr} {c : Nat} {l : List TV} (h : RdM W A c l) (hb : Below W.heap.size W W') : RdM W' A c l := h.kept (.of_below hb)
theorem RdM.at_ {A : Option Addr} {c : Nat} {l : List TV} (h : RdM W A c l) {k : Nat} (hk : k < l.length) : ∃ b o, A = some ⟨b, o, none⟩ ∧ l[k].At W b (o + k * 4) := by
  rcases h.2.2 with rfl | ⟨b, o, hA, hr⟩
  · simp at hk
  · exact ⟨b, o, hA, row_at hr hk⟩
/-- An item, read. -/
theorem RdM.item {A : Option Addr} {c : Nat} {l : List TV} (h : RdM W A c l) {k : Nat} (hk : k < l.length) : ∃ b o A' c', A = some ⟨b, o, none⟩ ∧ W.cell? ⟨b, o + k * 4, none⟩ = some (.int .i64 l[k].kind) ∧ W.cell? ⟨b, o + k * 4 + 1, none⟩ = some (.int .i64 l[k].int) ∧ W.cell? ⟨b, o + k * 4 + 2, none⟩ = some (.string ⟨l[k].name.toArray⟩) ∧ W.cell? ⟨b, o + k * 4 + 3, none⟩ = some (.slice A' l[k].items.length c') ∧ RdM W A' c' l[k].items := by
  obtain ⟨b, o, hA, ha⟩ := h.at_ hk
  obtain ⟨h0, h1, h2, A', c', h3, h4⟩ := (TV.at_iff _ _ _).1 ha
  exact ⟨b, o, A', c', hA, h0, h1, h2, h3, h4⟩
end
end
section
open Go.RowKit
set_option linter.unusedVariables false

/-- What count leaves: the number, and whether there are not too many. -/
def countP (x n : Nat) : Nat × Bool := if x + n ≤ 4096 then (x + n, true) else (4097, false)
def CountEnds (W : World) (p x n : Nat) (e : Ending) (w' : World) : Prop :=
  e = .returned (.bool (countP x n).2) ∧ Blk w' p 105 #[.int .i64 ((countP x n).1 : Int)] ∧ Fr (fun k => k = p) W w'
theorem countP_yes {x n : Nat} (h : x + n ≤ 4096) : countP x n = (x + n, true) := by unfold countP; rw [if_pos h]
theorem countP_no {x n : Nat} (h : ¬ x + n ≤ 4096) : countP x n = (4097, false) := by unfold countP; rw [if_neg h]

set_option maxHeartbeats 1000000 in
theorem count_full (t : TV) (A : Option Addr) (c p len : Nat) (W : World) (hB : Blk W p 105 #[.int .i64 (4096 : Nat)]) :
    Calls Try.prog 57 #[.pointer (some ⟨p, 0, none⟩), .agg #[.int .i64 t.kind, .int .i64 t.int, .string ⟨t.name.toArray⟩, .slice A len c]] W fun e w' => e = .returned (.bool false) ∧ Blk w' p 105 #[.int .i64 4097] ∧ Fr (fun k => k = p) W w' := by
  have c0 : W.cell? ⟨p, 0, none⟩ = some (.int .i64 4096) := hB.cell 0
  have f0 := hB.frozen 0
  have hlt := hB.lt
  have HE : Hid (Blk ((W.setCell ⟨p, 0, none⟩ (.int .i64 4097)).alloc (.cells #[.int .i64 t.kind, .int .i64 t.int, .string ⟨t.name.toArray⟩, .slice A len c] 37)) p 105 #[.int .i64 4097] ∧ Fr (fun k => k = p) W ((W.setCell ⟨p, 0, none⟩ (.int .i64 4097)).alloc (.cells #[.int .i64 t.kind, .int .i64 t.int, .string ⟨t.name.toArray⟩, .slice A len c] 37))) :=
    ⟨(hB.set_ 0 _).alloc _, (Fr.setCell (fun k => k = p) W (p := ⟨p, 0, none⟩) (fun _ => rfl) _).same (Fr.alloc _ _ _)⟩
  go_enter Try.func57, Try.ntmps57
  go_wp2_with (fail)
  go_ret
  exact ⟨rfl, HE.out.1, HE.out.2⟩

set_option maxRecDepth 100000 in
set_option maxHeartbeats 2000000 in
theorem count_any (N : Nat) : ∀ (t : TV) (A : Option Addr) (c x p : Nat) (w0 W : World), t.parts ≤ N → x ≤ 4096 → Below w0.heap.size w0 W → w0.heap.size ≤ p → RdM w0 A c t.items → Blk W p 105 #[.int .i64 (x : Int)] →
    Calls Try.prog 57 #[.pointer (some ⟨p, 0, none⟩), .agg #[.int .i64 t.kind, .int .i64 t.int, .string ⟨t.name.toArray⟩, .slice A t.items.length c]] W (CountEnds W p x t.parts) := by
  induction N with
  | zero => intro t A c x p w0 W ht; have := t.parts_pos; omega
  | succ N ih =>
    intro t A c x p w0 W ht hx hW hp hR hB
    by_cases hfull : x = 4096
    · subst hfull
      have h1 := t.parts_pos
      refine (count_full t A c p t.items.length W hB).mono ?_
      rintro e w' ⟨he, hb', hf⟩
      unfold CountEnds
      rw [countP_no (by omega)]
      exact ⟨he, hb', hf⟩
    have hpe := t.parts_eq
    have c0 : W.cell? ⟨p, 0, none⟩ = some (.int .i64 (x : Int)) := hB.cell 0
    have f0 := hB.frozen 0
    have hlt := hB.lt
    obtain ⟨k0, n0, s0, l, ht0⟩ : ∃ k0 n0 s0 l, t = TV.mk k0 n0 s0 l := by cases t; exact ⟨_, _, _, _, rfl⟩
    subst ht0
    simp only [TV.kind, TV.int, TV.name, TV.items] at hR hpe ⊢
    obtain ⟨len, hlen⟩ : ∃ len, l.length = len := ⟨_, rfl⟩
    have HLEN := Lib.hid hlen
    have hlc : len ≤ 9223372036854775807 := by have := hR.1; have := hR.2.1; omega
    rw [hlen]
    generalize (TV.mk k0 n0 s0 l).parts = P at *
    have HPE := Lib.hid hpe
    have HE : Hid (∀ y : Nat, Blk ((W.setCell ⟨p, 0, none⟩ (.int .i64 ((x : Int) + 1))).alloc (.cells #[.int .i64 k0, .int .i64 n0, .string ⟨s0.toArray⟩, .slice A len c] 37)) p 105 #[.int .i64 ((x : Int) + 1)] ∧ Fr (fun k => k = p) W ((W.setCell ⟨p, 0, none⟩ (.int .i64 ((x : Int) + 1))).alloc (.cells #[.int .i64 k0, .int .i64 n0, .string ⟨s0.toArray⟩, .slice A len c] 37))) :=
      fun _ => ⟨(hB.set_ 0 _).alloc _, (Fr.setCell (fun k => k = p) W (p := ⟨p, 0, none⟩) (fun _ => rfl) _).same (Fr.alloc _ _ _)⟩
    have hd1 : decide (4096 < (x : Int) + 1) = false := by simp; omega
    have hx2 : x + 1 ≤ 4096 := by omega
    clear hlen hpe hfull
    go_enter Try.func57, Try.ntmps57
    go_upto_region 5 with (fail)
    refine wp_world (fun w1 => Blk w1 p 105 #[.int .i64 ((x + 1 + TV.partsL (l.take 0) : Nat) : Int)] ∧ Fr (fun k => k = p) W w1) ⟨by simpa [TV.partsL] using (HE.out 0).1, (HE.out 0).2⟩ ?_
    rintro w1 ⟨hB1, hF1⟩
    clear HE c0 f0 hB hd1
    go_loopw [19] (fun i wr => ∃ k : Nat, k ≤ len ∧ i = .int .i64 k ∧ x + 1 + TV.partsL (l.take k) ≤ 4096 ∧ Blk wr p 105 #[.int .i64 ((x + 1 + TV.partsL (l.take k) : Nat) : Int)] ∧ Fr (fun k => k = p) W wr) (fun i _ => len - (intOf i).toNat)
    case atStart => exact ⟨0, Nat.zero_le _, rfl, by simp [TV.partsL]; omega, hB1, hF1⟩
    case round =>
      obtain ⟨k, hk, rfl, hle, hBr, hFr⟩ := hrel
      clear hB1 hF1
      have hbr : Below w0.heap.size w0 wr := hW.trans (hFr.below hW.size (fun j hj => by rw [hj]; exact hp))
      by_cases hlt2 : k < len
      · have hkl : k < l.length := by rw [HLEN.out]; exact hlt2
        obtain ⟨b, o, A', c', rfl, h0, h1, h2, h3, hR'⟩ := hR.item hkl
        have hpt := partsL_take l k hkl
        have hpi := parts_item l k hkl
        have e0 := (hbr.cell (World.block_lt_of_cell? w0 _ h0)).trans h0
        have e1 := (hbr.cell (World.block_lt_of_cell? w0 _ h1)).trans h1
        have e2 := (hbr.cell (World.block_lt_of_cell? w0 _ h2)).trans h2
        have e3 := (hbr.cell (World.block_lt_of_cell? w0 _ h3)).trans h3
        have HIH := Lib.hid (ih l[k] A' c' (x + 1 + TV.partsL (l.take k)) p w0 (wr.alloc (.cells #[.int .i64 l[k].kind, .int .i64 l[k].int, .string ⟨l[k].name.toArray⟩, .slice A' l[k].items.length c'] 37)) (by have := HPE.out; omega) hle (below_step hbr (below_alloc _ _)) hp hR' (hBr.alloc _))
        obtain ⟨y, hy⟩ : ∃ y, x + 1 + TV.partsL (l.take k) = y := ⟨_, rfl⟩
        rw [hy] at HIH hle
        have HY := Lib.hid hy
        have HPT := Lib.hid hpt
        generalize l[k] = ti at *
        obtain ⟨tp, htp⟩ : ∃ tp, ti.parts = tp := ⟨_, rfl⟩
        rw [htp] at HIH
        have HTP := Lib.hid htp
        generalize ti.items.length = tl at *
        have q1 : (0 : Int) ≤ (k : Int) := by omega
        have q2 : (k : Int) < (len : Int) := by omega
        have hd2 : decide (k < len) = true := by simp; omega
        clear h0 h1 h2 h3 hy hpt hpi htp hkl hR' hBr
        by_cases hov : y + tp ≤ 4096
        · rw [show CountEnds _ p y tp = _ from rfl] at HIH
          unfold CountEnds at HIH
          rw [countP_yes hov] at HIH
          go_wp2_with (go_at_call 57; refine HIH.out.mono ?_; rintro e w5 ⟨rfl, hB5, hF5⟩)
          go_roundw
          case rel => exact ⟨k + 1, by omega, by go_num, by rw [HPT.out, HTP.out]; have := HY.out; omega, by rw [HPT.out, HTP.out, ← Nat.add_assoc, HY.out]; exact hB5, (hFr.same (Fr.alloc _ _ _)).same hF5⟩
          case measure => simp [intOf]; omega
        · unfold CountEnds at HIH
          rw [countP_no hov] at HIH
          go_wp2_with (go_at_call 57; refine HIH.out.mono ?_; rintro e w5 ⟨rfl, hB5, hF5⟩)
          go_ret
          unfold CountEnds
          have h9 := partsL_take_le l (k + 1)
          rw [HPT.out, HTP.out] at h9
          rw [countP_no (by have := HY.out; have := HPE.out; omega)]
          exact ⟨rfl, hB5, (hFr.same (Fr.alloc _ _ _)).same hF5⟩
      · obtain rfl : k = len := by omega
        have hd2 : decide (k < k) = false := by simp
        rw [List.take_of_length_le (by rw [HLEN.out]; exact Nat.le_refl _)] at hle hBr
        go_wp2_with (fail)
        go_ret
        unfold CountEnds
        rw [countP_yes (by rw [HPE.out]; omega)]
        refine ⟨rfl, ?_, hFr⟩
        rw [HPE.out, show x + (TV.partsL l + 1) = x + 1 + TV.partsL l by omega]
        exact hBr
end
section
open Go.RowKit
set_option linter.unusedVariables false

/-- Is it a term, but for its items? -/
def headB (k n : Int) (s : List UInt8) (len : Nat) : Bool :=
  if k = 1 then decide (-576460752303423488 ≤ n) && decide (n ≤ 576460752303423487) && decide (len = 0) && decide (s = [])
  else if k = 2 then decide (s ≠ []) && decide (s.length ≤ 255) && decide (len = 0) && decide (n = 0)
  else if k = 3 ∨ k = 5 then decide (0 ≤ n) && decide (n ≤ 576460752303423487) && decide (len = 0) && decide (s = [])
  else if k = 4 then decide (0 ≤ n) && decide (n ≤ 576460752303423487) && decide (s = [])
  else if k = 6 then decide (n = 0) && decide (s = [])
  else if k = 7 then decide (len = 0) && decide (n = 0) && decide (s = [])
  else if k = 8 then decide (len = 2) && decide (n = 0) && decide (s = [])
  else false
mutual
def TV.isT : TV → Bool
  | .mk k n s l => headB k n s l.length && TV.isL l
def TV.isL : List TV → Bool
  | [] => true
  | t :: r => t.isT && TV.isL r
end
theorem isL_append (l m : List TV) : TV.isL (l ++ m) = (TV.isL l && TV.isL m) := by
  induction l with
  | nil => simp [TV.isL]
  | cons t r ih => simp [TV.isL, ih, Bool.and_assoc]
theorem isL_take (l : List TV) (k : Nat) (h : k < l.length) : TV.isL (l.take (k + 1)) = (TV.isL (l.take k) && l[k].isT) := by
  rw [List.take_succ_eq_append_getElem h, isL_append]
  simp [TV.isL]
theorem isL_no (l : List TV) (k : Nat) (h : k < l.length) (hf : l[k].isT = false) : TV.isL l = false := by
  rw [← List.take_append_drop (k + 1) l, isL_append, isL_take l k h, hf]
  simp

set_option maxHeartbeats 2000000 in
theorem idx_is (l : List TV) (A : Option Addr) (len c : Nat) (w0 W : World) (hlen : l.length = len) (hW : Below w0.heap.size w0 W) (hR : RdM w0 A c l)
    (hf : ∀ (k : Nat) (h : k < l.length) (A' : Option Addr) (c' : Nat) (W' : World), Below w0.heap.size w0 W' → RdM w0 A' c' l[k].items → Calls Try.prog 89 #[.agg #[.int .i64 l[k].kind, .int .i64 l[k].int, .string ⟨l[k].name.toArray⟩, .slice A' l[k].items.length c']] W' fun e w' => e = .returned (.bool (!l[k].isT)) ∧ Below W'.heap.size W' w') :
    Calls Try.prog 58 #[.slice A len c, .func (.func 89) #[] #[]] W fun e w' => e = .returned (.bool (!TV.isL l)) ∧ Below W.heap.size W w' := by
  have HIX : Hid (Calls Try.prog 88 #[.slice A len c, .func (.func 89) #[] #[]] W fun e w' => ∃ z : Int, e = .returned (.int .i64 z) ∧ decide (0 ≤ z) = (!TV.isL l) ∧ Below W.heap.size W w') := by
    have HLEN := Lib.hid hlen
    have hlc : len ≤ 9223372036854775807 := by have := hR.1; have := hR.2.1; omega
    have HF := Lib.hid hf
    clear hlen hf
    go_enter Try.func88, Try.ntmps88
    go_upto_region 2 with (fail)
    go_loopw [8] (fun i wr => ∃ k : Nat, k ≤ len ∧ i = .int .i64 k ∧ TV.isL (l.take k) = true ∧ Below W.heap.size W wr) (fun i _ => len - (intOf i).toNat)
    case atStart => exact ⟨0, Nat.zero_le _, rfl, by simp [TV.isL], Below.refl _ _⟩
    case round =>
      obtain ⟨k, hk, rfl, hall, hb⟩ := hrel
      have HALL := Lib.hid hall
      clear hall
      by_cases hlt : k < len
      · have hkl : k < l.length := by rw [HLEN.out]; exact hlt
        obtain ⟨b, o, A', c', rfl, h0, h1, h2, h3, hR'⟩ := hR.item hkl
        have hbr := below_step hW hb
        have e0 := (hbr.cell (World.block_lt_of_cell? w0 _ h0)).trans h0
        have e1 := (hbr.cell (World.block_lt_of_cell? w0 _ h1)).trans h1
        have e2 := (hbr.cell (World.block_lt_of_cell? w0 _ h2)).trans h2
        have e3 := (hbr.cell (World.block_lt_of_cell? w0 _ h3)).trans h3
        have HC := Lib.hid (HF.out k hkl A' c' wr hbr hR')
        have HTK := Lib.hid (isL_take l k hkl)
        have HTL := Lib.hid (isL_no l k hkl)
        generalize l[k] = ti at *
        generalize ti.items.length = tl at *
        have q1 : (0 : Int) ≤ (k : Int) := by omega
        have q2 : (k : Int) < (len : Int) := by omega
        have hd2 : decide (k < len) = true := by simp; omega
        clear h0 h1 h2 h3 hkl hR'
        cases hti : ti.isT with
        | true =>
          rw [hti] at HC HTK
          go_wp2_with (go_at_call 89; refine HC.out.mono ?_; rintro e w5 ⟨rfl, hb5⟩)
          go_roundw
          case rel => exact ⟨k + 1, by omega, by go_num, by rw [HTK.out, HALL.out]; rfl, below_step hb hb5⟩
          case measure => simp [intOf]; omega
        | false =>
          rw [hti] at HC
          go_wp2_with (go_at_call 89; refine HC.out.mono ?_; rintro e w5 ⟨rfl, hb5⟩)
          go_ret
          exact ⟨k, rfl, by rw [HTL.out hti]; simp, below_step hb hb5⟩
      · obtain rfl : k = len := by omega
        have hd2 : decide (k < k) = false := by simp
        go_wp2_with (fail)
        go_ret
        have := HALL.out
        rw [List.take_of_length_le (by rw [HLEN.out]; exact Nat.le_refl _)] at this
        exact ⟨-1, rfl, by rw [this]; rfl, hb⟩
  clear hlen hf
  go_enter Try.func58, Try.ntmps58
  go_wp2_with (go_at_call 88; refine HIX.out.mono ?_; rintro e w5 ⟨z, rfl, hz, hb5⟩)
  go_ret
  exact ⟨rfl, hb5⟩

set_option maxHeartbeats 2000000 in
theorem idx_check (l : List TV) (A : Option Addr) (len c : Nat) (w0 W : World) (hlen : l.length = len) (hW : Below w0.heap.size w0 W) (hR : RdM w0 A c l)
    (hf : ∀ (k : Nat) (h : k < l.length) (A' : Option Addr) (c' : Nat) (W' : World), Below w0.heap.size w0 W' → RdM w0 A' c' l[k].items → Calls Try.prog 59 #[.agg #[.int .i64 l[k].kind, .int .i64 l[k].int, .string ⟨l[k].name.toArray⟩, .slice A' l[k].items.length c']] W' fun e w' => e = .returned (.bool (!l[k].isT)) ∧ Below W'.heap.size W' w') :
    Calls Try.prog 58 #[.slice A len c, .func (.func 59) #[] #[]] W fun e w' => e = .returned (.bool (!TV.isL l)) ∧ Below W.heap.size W w' := by
  have HIX : Hid (Calls Try.prog 88 #[.slice A len c, .func (.func 59) #[] #[]] W fun e w' => ∃ z : Int, e = .returned (.int .i64 z) ∧ decide (0 ≤ z) = (!TV.isL l) ∧ Below W.heap.size W w') := by
    have HLEN := Lib.hid hlen
    have hlc : len ≤ 9223372036854775807 := by have := hR.1; have := hR.2.1; omega
    have HF := Lib.hid hf
    clear hlen hf
    go_enter Try.func88, Try.ntmps88
    go_upto_region 2 with (fail)
    go_loopw [8] (fun i wr => ∃ k : Nat, k ≤ len ∧ i = .int .i64 k ∧ TV.isL (l.take k) = true ∧ Below W.heap.size W wr) (fun i _ => len - (intOf i).toNat)
    case atStart => exact ⟨0, Nat.zero_le _, rfl, by simp [TV.isL], Below.refl _ _⟩
    case round =>
      obtain ⟨k, hk, rfl, hall, hb⟩ := hrel
      have HALL := Lib.hid hall
      clear hall
      by_cases hlt : k < len
      · have hkl : k < l.length := by rw [HLEN.out]; exact hlt
        obtain ⟨b, o, A', c', rfl, h0, h1, h2, h3, hR'⟩ := hR.item hkl
        have hbr := below_step hW hb
        have e0 := (hbr.cell (World.block_lt_of_cell? w0 _ h0)).trans h0
        have e1 := (hbr.cell (World.block_lt_of_cell? w0 _ h1)).trans h1
        have e2 := (hbr.cell (World.block_lt_of_cell? w0 _ h2)).trans h2
        have e3 := (hbr.cell (World.block_lt_of_cell? w0 _ h3)).trans h3
        have HC := Lib.hid (HF.out k hkl A' c' wr hbr hR')
        have HTK := Lib.hid (isL_take l k hkl)
        have HTL := Lib.hid (isL_no l k hkl)
        generalize l[k] = ti at *
        generalize ti.items.length = tl at *
        have q1 : (0 : Int) ≤ (k : Int) := by omega
        have q2 : (k : Int) < (len : Int) := by omega
        have hd2 : decide (k < len) = true := by simp; omega
        clear h0 h1 h2 h3 hkl hR'
        cases hti : ti.isT with
        | true =>
          rw [hti] at HC HTK
          go_wp2_with (go_at_call 59; refine HC.out.mono ?_; rintro e w5 ⟨rfl, hb5⟩)
          go_roundw
          case rel => exact ⟨k + 1, by omega, by go_num, by rw [HTK.out, HALL.out]; rfl, below_step hb hb5⟩
          case measure => simp [intOf]; omega
        | false =>
          rw [hti] at HC
          go_wp2_with (go_at_call 59; refine HC.out.mono ?_; rintro e w5 ⟨rfl, hb5⟩)
          go_ret
          exact ⟨k, rfl, by rw [HTL.out hti]; simp, below_step hb hb5⟩
      · obtain rfl : k = len := by omega
        have hd2 : decide (k < k) = false := by simp
        go_wp2_with (fail)
        go_ret
        have := HALL.out
        rw [List.take_of_length_le (by rw [HLEN.out]; exact Nat.le_refl _)] at this
        exact ⟨-1, rfl, by rw [this]; rfl, hb⟩
  clear hlen hf
  go_enter Try.func58, Try.ntmps58
  go_wp2_with (go_at_call 88; refine HIX.out.mono ?_; rintro e w5 ⟨z, rfl, hz, hb5⟩)
  go_ret
  exact ⟨rfl, hb5⟩
end
end Go.Proofs.Ytefnjplfemgibaa
