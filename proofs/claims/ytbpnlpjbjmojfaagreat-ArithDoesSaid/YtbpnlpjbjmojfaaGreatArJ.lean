/- slices.Backward of terms: the walk of its iterator, for every body of a loop that keeps its box. -/
import Derived.RangeFuncNested
import Derived.RangeFuncBound
import Derived.RangeFuncCalls
import Derived.RangeFuncLeaves
import Derived.Shelf.Abstract
import Derived.Shelf.RegionOpen
import Derived.WalkKit
import Derived.OwnWalkIn
import Derived.TacticsInMore
import Derived.LoopNIn
import Derived.LoopIn
import Derived.Test.YtbpnlpjbjmojfaaGreatArI
namespace Go.Proofs.YtbpnlpjbjmojfaaGreat
open Go.RowKit Go.Shelf
attribute [local go_sem] Oper.semAt_some
set_option linter.unusedVariables false

def upto {α : Type} (f : Nat → α) (k : Nat) : List α := (List.range k).map f
theorem upto_succ {α : Type} (f : Nat → α) (k : Nat) : upto f (k + 1) = upto f k ++ [f k] := by simp [upto, List.range_succ]
theorem upto_length {α : Type} (f : Nat → α) (k : Nat) : (upto f k).length = k := by simp [upto]
/-- A term that a round is given. -/
structure Pt (X : Nat → Prop) (w : World) where
  idx : Nat
  A : Option Addr
  n : Nat
  c : Nat
  t : TV
  ok : TEx X w (.agg #[.int .i64 t.kind, .int .i64 t.int, .string ⟨t.name.toArray⟩, .slice A n c]) t
def ptEnc {X : Nat → Prop} {w : World} (x : Pt X w) : Array Value := #[.int .i64 x.idx, .agg #[.int .i64 x.t.kind, .int .i64 x.t.int, .string ⟨x.t.name.toArray⟩, .slice x.A x.n x.c]]
theorem pt_ex {X : Nat → Prop} {w : World} {A : Option Addr} {len c : Nat} {l : List TV} (h : LEx X w (.slice A len c) l) {j : Nat} (hj : j < l.length) : ∃ x : Pt X w, x.idx = l.length - 1 - j ∧ x.t = l[l.length - 1 - j] ∧ ∃ b o, A = some ⟨b, o, none⟩ ∧ b < w.heap.size ∧ w.cell? ⟨b, o + x.idx * 4, none⟩ = some (.int .i64 x.t.kind) ∧ w.cell? ⟨b, o + x.idx * 4 + 1, none⟩ = some (.int .i64 x.t.int) ∧ w.cell? ⟨b, o + x.idx * 4 + 2, none⟩ = some (.string ⟨x.t.name.toArray⟩) ∧ w.cell? ⟨b, o + x.idx * 4 + 3, none⟩ = some (.slice x.A x.n x.c) := by
  obtain ⟨b, o, A', n', c', hA, h0, h1, h2, h3, hn, hT⟩ := h.item (j := l.length - 1 - j) (by omega)
  exact ⟨⟨l.length - 1 - j, A', n', c', l[l.length - 1 - j], hT⟩, rfl, rfl, b, o, hA, World.block_lt_of_cell? w _ h0, h0, h1, h2, h3⟩
open Classical in
noncomputable def ptAt {X : Nat → Prop} {w : World} {A : Option Addr} {len c : Nat} {l : List TV} (h : LEx X w (.slice A len c) l) (j : Nat) : Pt X w := if hj : j < l.length then Classical.choose (pt_ex h hj) else ⟨0, none, 0, 0, tZ, tex_z _ _⟩
theorem ptAt_spec {X : Nat → Prop} {w : World} {A : Option Addr} {len c : Nat} {l : List TV} (h : LEx X w (.slice A len c) l) {j : Nat} (hj : j < l.length) : (ptAt h j).idx = l.length - 1 - j ∧ (ptAt h j).t = l[l.length - 1 - j] ∧ ∃ b o, A = some ⟨b, o, none⟩ ∧ b < w.heap.size ∧ w.cell? ⟨b, o + (ptAt h j).idx * 4, none⟩ = some (.int .i64 (ptAt h j).t.kind) ∧ w.cell? ⟨b, o + (ptAt h j).idx * 4 + 1, none⟩ = some (.int .i64 (ptAt h j).t.int) ∧ w.cell? ⟨b, o + (ptAt h j).idx * 4 + 2, none⟩ = some (.string ⟨(ptAt h j).t.name.toArray⟩) ∧ w.cell? ⟨b, o + (ptAt h j).idx * 4 + 3, none⟩ = some (.slice (ptAt h j).A (ptAt h j).n (ptAt h j).c) := by
  unfold ptAt
  rw [dif_pos hj]
  exact Classical.choose_spec (pt_ex h hj)
theorem ptAt_terms {X : Nat → Prop} {w : World} {A : Option Addr} {len c : Nat} {l : List TV} (h : LEx X w (.slice A len c) l) : ∀ k, k ≤ l.length → (upto (ptAt h) k).map (fun x => x.t) = (l.drop (l.length - k)).reverse
  | 0, _ => by simp [upto]
  | k + 1, hk => by
    have hs := ptAt_spec h (j := k) (by omega)
    rw [upto_succ, List.map_append, ptAt_terms h k (by omega), List.map_cons, List.map_nil, hs.2.1]
    have h1 : l.length - (k + 1) < l.length := by omega
    rw [List.drop_eq_getElem_cons h1, List.reverse_cons]
    have e1 : l.length - (k + 1) + 1 = l.length - k := by omega
    simp only [e1, show l.length - 1 - k = l.length - (k + 1) by omega]
/-- What the round's body keeps: all that lay there when the loop began, but the block Bo. -/
def KpC (n1 Bo : Nat) : World → World → Prop := Fr (fun k => k = Bo ∨ n1 ≤ k)
theorem kpC_t {n1 Bo : Nat} {A B C : World} (h : KpC n1 Bo A B) (k : KpC n1 Bo B C) : KpC n1 Bo A C := Fr.same h k
theorem kpC_b {n1 Bo : Nat} {w : World} (hn : n1 ≤ w.heap.size) (W : World) (l : Nat) (o o' : Obj) (hl : w.heap.size ≤ l) (h : W.heap[l]? = some o) (_ : o.isCells = false) (_ : o.isWalk = false) : KpC n1 Bo W (W.putObj l o') :=
  Fr.of_grown (grownBy_putObj' W l o') (fun k e _ => by cases e; exact .inr (by omega))

set_option maxRecDepth 100000 in
set_option maxHeartbeats 2000000 in
theorem back1_in {X : Nat → Prop} (n : Nat) (hn : 1 ≤ n) (l Bs n1 Bo : Nat) (w : World) (A : Option Addr) (L : List TV) (len cap : Nat) (hL : LEx X w (.slice A len cap) L) (hl : L.length = len) (hlc : len ≤ cap) (hcm : cap ≤ 9223372036854775807) (hlen : len ≤ 1000000)
    (hBs : Bs < n1) (hos : Bs ≠ Bo) (hwn : w.heap.size ≤ n1) (hwo : w.heap.size ≤ Bo) (J Jx : List (Pt X w) → World → Prop) (B0 : Nat) (hJ : AbidesFrom B0 J)
    (hY : ∀ pre x W, J pre W → pre.length < len → YieldAt Fence.wide (n - 1) Tryz.prog l (ptEnc x) W fun e W' =>
      (e = .returned (.bool true) ∧ J (pre ++ [x]) W' ∧ KpC n1 Bo W W') ∨ (e = .returned (.bool false) ∧ Jx (pre ++ [x]) W'))
    (W : World) (hW : Below w.heap.size w W) (hn1 : n1 ≤ W.heap.size) (cs : W.cell? ⟨Bs, 0, none⟩ = some (.slice A len cap)) (h0 : J [] W) :
    CallsIn Fence.wide n Tryz.prog 102 #[.func (.yield l) #[] #[], .pointer (some ⟨Bs, 0, none⟩)] W fun e W' => (∃ v, e = .returned v) ∧
      ((∃ ys, ys = upto (ptAt hL) len ∧ J ys W') ∨ (∃ pre, (∃ k, k ≤ len ∧ pre = upto (ptAt hL) k) ∧ Jx pre W')) := by
  have HLN := Lib.hid hl
  have HWB := Lib.hid hW
  clear hl hW
  have hmx : Tryz.prog.follows .mixedOrders = true := by kernel_rfl
  refine callsIn_of_wp Tryz.func102 rfl trivial ?_ rfl
  simp only [Tryz.ntmps102, List.size_toArray, List.length_cons, List.length_nil, Nat.reduceAdd, Nat.reduceSub, Array.replicate_succ, Array.replicate_zero, List.push_toArray, List.append_toArray, List.nil_append, List.cons_append]
  gi_wp2
  gi_loopw [3] (fun i wr => ∃ k : Nat, k ≤ len ∧ i = .int .i64 ((len : Int) - 1 - (k : Int)) ∧ J (upto (ptAt hL) k) wr ∧ KpC n1 Bo W wr)
    (fun i _ => (intOf i + 1).toNat)
  case atStart => exact ⟨0, Nat.zero_le _, by simp, h0, Fr.refl _ _⟩
  case round =>
    obtain ⟨k, hk, rfl, hJs, hnx⟩ := hrel
    have cs' : wr.cell? ⟨Bs, 0, none⟩ = some (.slice A len cap) := (World.cell?_of_block (hnx.block Bs (by omega) (fun h => by omega))).trans cs
    by_cases hlt : k < len
    · obtain ⟨hidx, ht, b, o, rfl, hb, e0, e1, e2, e3⟩ := ptAt_spec hL (j := k) (by rw [HLN.out]; exact hlt)
      rw [HLN.out] at hidx
      obtain ⟨fn, tmps, assign, body, hy, hR⟩ := hY _ (ptAt hL k) wr hJs (by rw [upto_length]; exact hlt)
      unfold ptEnc at hy
      have HUS := Lib.hid (upto_succ (ptAt hL) k)
      have hrel2 : ∀ W3, J (upto (ptAt hL) k ++ [ptAt hL k]) W3 → KpC n1 Bo wr W3 → ∃ k' : Nat, k' ≤ len ∧ Value.int .i64 (((len - 1 - k : Nat) : Int) - 1) = .int .i64 ((len : Int) - 1 - (k' : Int)) ∧ J (upto (ptAt hL) k') W3 ∧ KpC n1 Bo W W3 :=
        fun W3 h1 h2 => ⟨k + 1, hlt, by congr 1; omega, by rw [HUS.out]; exact h1, Fr.same hnx h2⟩
      have HR2 := Lib.hid hrel2
      clear hrel2 hJs
      have hcw : ∀ p : Addr, p.block < w.heap.size → wr.cell? p = w.cell? p := fun p hp => (World.cell?_of_block (hnx.block p.block (by have := HWB.out.size; omega) (fun h => by omega))).trans (HWB.out.cell hp)
      have i0 := (hcw ⟨b, _, none⟩ hb).trans e0
      have i1 := (hcw ⟨b, _, none⟩ hb).trans e1
      have i2 := (hcw ⟨b, _, none⟩ hb).trans e2
      have i3 := (hcw ⟨b, _, none⟩ hb).trans e3
      rw [hidx] at hy i0 i1 i2 i3
      have HNX := Lib.hid hnx
      clear hcw e0 e1 e2 e3 ht hidx hb hnx
      have HJI := Lib.hid (show (len : Int) - 1 - (k : Int) = ((len - 1 - k : Nat) : Int) by omega)
      have hjl : len - 1 - k < len := by omega
      have HKL := Lib.hid hlt
      rw [HJI.out]
      generalize hj : len - 1 - k = j at *
      clear hj hlt
      have q1 : (0 : Int) ≤ (j : Int) := by omega
      have q2 : (j : Int) < (len : Int) := by omega
      have hw9 : wrap64 ((j : Int) - 1) = (j : Int) - 1 := by unfold wrap64; omega
      gi_wp2
      refine hR.mono ?_
      rintro e W3 (⟨rfl, hJ3, hk3⟩ | ⟨rfl, hJx3⟩)
      · gi_wp2
        go_roundw
        case rel => exact HR2.out W3 hJ3 hk3
        case measure => simp [intOf]
      · gi_wp2
        refine bodyPost_ret (results_none rfl _ _ _) rfl ?_
        exact ⟨⟨_, rfl⟩, .inr ⟨_, ⟨k + 1, HKL.out, HUS.out.symm⟩, hJx3⟩⟩
    · obtain rfl : k = len := by omega
      rw [show (k : Int) - 1 - (k : Int) = -1 by omega]
      gi_wp2
      go_end0
      exact ⟨⟨_, rfl⟩, .inl ⟨_, rfl, hJs⟩⟩

set_option maxHeartbeats 400000 in
theorem back_any (A : Option Addr) (len cap : Nat) (w : World) :
    Calls Tryz.prog 90 #[.slice A len cap] w fun e w' =>
      e = .returned (.func (.func 102) #[] #[.pointer (some ⟨w.heap.size, 0, none⟩)]) ∧
      w' = w.alloc (.cells #[.slice A len cap] 22) := by
  go_enter Tryz.func90, Tryz.ntmps90
  go_wp2
  go_ret
  exact ⟨rfl, rfl⟩
theorem back_stops {X : Nat → Prop} (n : Nat) (hn : 1 ≤ n) (Bs n1 Bo : Nat) (w : World) (A : Option Addr) (L : List TV) (len cap : Nat) (hL : LEx X w (.slice A len cap) L) (hl : L.length = len) (hlc : len ≤ cap) (hcm : cap ≤ 9223372036854775807) (hlen : len ≤ 1000000)
    (hBs : Bs < n1) (hos : Bs ≠ Bo) (hwn : w.heap.size ≤ n1) (hwo : w.heap.size ≤ Bo) (w0 : World) (hw0 : Below w.heap.size w w0) (hn1 : n1 ≤ w0.heap.size) (cs : w0.cell? ⟨Bs, 0, none⟩ = some (.slice A len cap)) :
    SeqStopsK Fence.wide n Tryz.prog 102 #[.pointer (some ⟨Bs, 0, none⟩)] ptEnc (KpC n1 Bo) (fun ys : List (Pt X w) => ys = upto (ptAt hL) len) (fun pre => ∃ k, k ≤ len ∧ pre = upto (ptAt hL) k) len w0 :=
  fun l J Jx W hW hJ _ hY h0 =>
    back1_in n hn l Bs n1 Bo w A L len cap hL hl hlc hcm hlen hBs hos hwn hwo J Jx _ hJ hY W (below_step hw0 (hW.mono (Nat.le_refl _))) (Nat.le_trans hn1 hW.size) ((hW.cell (p := ⟨Bs, 0, none⟩) (by show Bs < _; omega)).trans cs) h0
end Go.Proofs.YtbpnlpjbjmojfaaGreat
