/- Layer 13: slices.Backward of bindings: the walk of its iterator, for every body of a loop that keeps its box. Layer 13: the walk of the program's Get. -/
import Derived.RangeFuncNested
import Derived.RangeFuncBound
import Derived.RangeFuncCalls
import Derived.RangeFuncLeaves
import Derived.Shelf.Abstract
import Derived.Shelf.RegionOpen
import Derived.WalkKit
import Derived.OwnWalkIn
import Derived.TacticsInMore
import Derived.LoopNIn
import Derived.LoopIn
import Derived.Test.YtmpknhdfglbocaaGreatMaH
namespace Go.Proofs.YtmpknhdfglbocaaGreat
section
open Go.RowKit Go.Shelf
attribute [local go_sem] Oper.semAt_some
set_option linter.unusedVariables false

def uptoB {α : Type} (f : Nat → α) (k : Nat) : List α := (List.range k).map f
theorem uptoB_succ {α : Type} (f : Nat → α) (k : Nat) : uptoB f (k + 1) = uptoB f k ++ [f k] := by simp [uptoB, List.range_succ]
theorem uptoB_length {α : Type} (f : Nat → α) (k : Nat) : (uptoB f k).length = k := by simp [uptoB]
/-- What a round is given: a place and a binding. -/
abbrev Pb (w0 : World) := Nat × BG (TE w0)
def zeroB (w0 : World) : BG (TE w0) := ([], ⟨.mk 0 0 [] [], none, 0, rdm_nil w0⟩)
def pbEnc {w0 : World} (x : Pb w0) : Array Value := #[.int .i64 x.1, .agg #[.string ⟨x.2.1.toArray⟩, .int .i64 x.2.2.t.kind, .int .i64 x.2.2.t.int, .string ⟨x.2.2.t.name.toArray⟩, .slice x.2.2.A x.2.2.t.items.length x.2.2.c]]
def pbAt {w0 : World} (E : List (BG (TE w0))) (j : Nat) : Pb w0 := (E.length - 1 - j, E.getD (E.length - 1 - j) (zeroB w0))
theorem pbAt_at {w0 : World} {E : List (BG (TE w0))} {j : Nat} (h : j < E.length) : (pbAt E j).2 = E[E.length - 1 - j]'(by omega) := by
  unfold pbAt
  rw [List.getD_eq_getElem?_getD, List.getElem?_eq_getElem (by omega)]
  rfl
theorem pbAt_spec {w0 w : World} {A : Option Addr} {c : Nat} {E : List (BG (TE w0))} (h : RdB w A c E) {j : Nat} (hj : j < E.length) : ∃ b o, A = some ⟨b, o, none⟩ ∧ b < w.heap.size ∧ w.cell? ⟨b, o + (E.length - 1 - j) * 5, none⟩ = some (.string ⟨(pbAt E j).2.1.toArray⟩) ∧ w.cell? ⟨b, o + (E.length - 1 - j) * 5 + 1, none⟩ = some (.int .i64 (pbAt E j).2.2.t.kind) ∧ w.cell? ⟨b, o + (E.length - 1 - j) * 5 + 2, none⟩ = some (.int .i64 (pbAt E j).2.2.t.int) ∧ w.cell? ⟨b, o + (E.length - 1 - j) * 5 + 3, none⟩ = some (.string ⟨(pbAt E j).2.2.t.name.toArray⟩) ∧ w.cell? ⟨b, o + (E.length - 1 - j) * 5 + 4, none⟩ = some (.slice (pbAt E j).2.2.A (pbAt E j).2.2.t.items.length (pbAt E j).2.2.c) := by
  obtain ⟨b, o, hA, h0, h1, h2, h3, h4⟩ := h.item (k := E.length - 1 - j) (by omega)
  rw [pbAt_at hj]
  exact ⟨b, o, hA, World.block_lt_of_cell? w _ h0, h0, h1, h2, h3, h4⟩
/-- What the round's body keeps: all that lay there when the loop began, but the block Bo. -/
def KpB (n1 Bo : Nat) : World → World → Prop := Fr (fun k => k = Bo ∨ n1 ≤ k)
theorem kpB_t {n1 Bo : Nat} {A B C : World} (h : KpB n1 Bo A B) (k : KpB n1 Bo B C) : KpB n1 Bo A C := Fr.same h k
theorem kpB_b {n1 Bo : Nat} {w : World} (hn : n1 ≤ w.heap.size) (W : World) (l : Nat) (o o' : Obj) (hl : w.heap.size ≤ l) (h : W.heap[l]? = some o) (_ : o.isCells = false) (_ : o.isWalk = false) : KpB n1 Bo W (W.putObj l o') :=
  Fr.of_grown (grownBy_putObj' W l o') (fun k e _ => by cases e; exact .inr (by omega))

set_option maxRecDepth 100000 in
set_option maxHeartbeats 2000000 in
theorem bback1_in {w0 : World} (n : Nat) (hn : 1 ≤ n) (l Bs n1 Bo : Nat) (w : World) (A : Option Addr) (L : List (BG (TE w0))) (len cap : Nat) (hL : RdB w A cap L) (hl : L.length = len) (hlc : len ≤ cap) (hcm : cap ≤ 9223372036854775807) (hlen : len ≤ 1000000)
    (hBs : Bs < n1) (hos : Bs ≠ Bo) (hwn : w.heap.size ≤ n1) (hwo : w.heap.size ≤ Bo) (J Jx : List (Pb w0) → World → Prop) (B0 : Nat) (hJ : AbidesFrom B0 J)
    (hY : ∀ pre x W, J pre W → pre.length < len → YieldAt Fence.wide (n - 1) Tryz.prog l (pbEnc x) W fun e W' =>
      (e = .returned (.bool true) ∧ J (pre ++ [x]) W' ∧ KpB n1 Bo W W') ∨ (e = .returned (.bool false) ∧ Jx (pre ++ [x]) W'))
    (W : World) (hW : Below w.heap.size w W) (hn1 : n1 ≤ W.heap.size) (cs : W.cell? ⟨Bs, 0, none⟩ = some (.slice A len cap)) (h0 : J [] W) :
    CallsIn Fence.wide n Tryz.prog 53 #[.func (.yield l) #[] #[], .pointer (some ⟨Bs, 0, none⟩)] W fun e W' => (∃ v, e = .returned v) ∧
      ((∃ ys, ys = uptoB (pbAt L) len ∧ J ys W') ∨ (∃ pre, (∃ k, k ≤ len ∧ pre = uptoB (pbAt L) k) ∧ Jx pre W')) := by
  have HLN := Lib.hid hl
  have HWB := Lib.hid hW
  clear hl hW
  have hmx : Tryz.prog.follows .mixedOrders = true := by kernel_rfl
  refine callsIn_of_wp Tryz.func53 rfl trivial ?_ rfl
  simp only [Tryz.ntmps53, List.size_toArray, List.length_cons, List.length_nil, Nat.reduceAdd, Nat.reduceSub, Array.replicate_succ, Array.replicate_zero, List.push_toArray, List.append_toArray, List.nil_append, List.cons_append]
  gi_wp2
  gi_loopw [3] (fun i wr => ∃ k : Nat, k ≤ len ∧ i = .int .i64 ((len : Int) - 1 - (k : Int)) ∧ J (uptoB (pbAt L) k) wr ∧ KpB n1 Bo W wr)
    (fun i _ => (intOf i + 1).toNat)
  case atStart => exact ⟨0, Nat.zero_le _, by simp, h0, Fr.refl _ _⟩
  case round =>
    obtain ⟨k, hk, rfl, hJs, hnx⟩ := hrel
    have cs' : wr.cell? ⟨Bs, 0, none⟩ = some (.slice A len cap) := (World.cell?_of_block (hnx.block Bs (by omega) (fun h => by omega))).trans cs
    by_cases hlt : k < len
    · obtain ⟨b, o, rfl, hb, e0, e1, e2, e3, e4⟩ := pbAt_spec hL (j := k) (by rw [HLN.out]; exact hlt)
      have hidx : (pbAt L k).1 = len - 1 - k := by unfold pbAt; rw [HLN.out]
      rw [HLN.out] at e0 e1 e2 e3 e4
      obtain ⟨fn, tmps, assign, body, hy, hR⟩ := hY _ (pbAt L k) wr hJs (by rw [uptoB_length]; exact hlt)
      unfold pbEnc at hy
      have HUS := Lib.hid (uptoB_succ (pbAt L) k)
      have hrel2 : ∀ W3, J (uptoB (pbAt L) k ++ [pbAt L k]) W3 → KpB n1 Bo wr W3 → ∃ k' : Nat, k' ≤ len ∧ Value.int .i64 (((len - 1 - k : Nat) : Int) - 1) = .int .i64 ((len : Int) - 1 - (k' : Int)) ∧ J (uptoB (pbAt L) k') W3 ∧ KpB n1 Bo W W3 :=
        fun W3 h1 h2 => ⟨k + 1, hlt, by congr 1; omega, by rw [HUS.out]; exact h1, Fr.same hnx h2⟩
      have HR2 := Lib.hid hrel2
      clear hrel2 hJs
      have hcw : ∀ p : Addr, p.block < w.heap.size → wr.cell? p = w.cell? p := fun p hp => (World.cell?_of_block (hnx.block p.block (by have := HWB.out.size; omega) (fun h => by omega))).trans (HWB.out.cell hp)
      have i0 := (hcw ⟨b, _, none⟩ hb).trans e0
      have i1 := (hcw ⟨b, _, none⟩ hb).trans e1
      have i2 := (hcw ⟨b, _, none⟩ hb).trans e2
      have i3 := (hcw ⟨b, _, none⟩ hb).trans e3
      have i4 := (hcw ⟨b, _, none⟩ hb).trans e4
      rw [hidx] at hy
      have HNX := Lib.hid hnx
      clear hcw e0 e1 e2 e3 e4 hidx hb hnx
      have HJI := Lib.hid (show (len : Int) - 1 - (k : Int) = ((len - 1 - k : Nat) : Int) by omega)
      have hjl : len - 1 - k < len := by omega
      have HKL := Lib.hid hlt
      rw [HJI.out]
      generalize hj : len - 1 - k = j at *
      clear hj hlt
      have q1 : (0 : Int) ≤ (j : Int) := by omega
      have q2 : (j : Int) < (len : Int) := by omega
      have hw9 : wrap64 ((j : Int) - 1) = (j : Int) - 1 := by unfold wrap64; omega
      gi_wp2
      refine hR.mono ?_
      rintro e W3 (⟨rfl, hJ3, hk3⟩ | ⟨rfl, hJx3⟩)
      · gi_wp2
        go_roundw
        case rel => exact HR2.out W3 hJ3 hk3
        case measure => simp [intOf]
      · gi_wp2
        refine bodyPost_ret (results_none rfl _ _ _) rfl ?_
        exact ⟨⟨_, rfl⟩, .inr ⟨_, ⟨k + 1, HKL.out, HUS.out.symm⟩, hJx3⟩⟩
    · obtain rfl : k = len := by omega
      rw [show (k : Int) - 1 - (k : Int) = -1 by omega]
      gi_wp2
      go_end0
      exact ⟨⟨_, rfl⟩, .inl ⟨_, rfl, hJs⟩⟩

set_option maxHeartbeats 400000 in
theorem bback_any (A : Option Addr) (len cap : Nat) (w : World) :
    Calls Tryz.prog 34 #[.slice A len cap] w fun e w' =>
      e = .returned (.func (.func 53) #[] #[.pointer (some ⟨w.heap.size, 0, none⟩)]) ∧
      w' = w.alloc (.cells #[.slice A len cap] 23) := by
  go_enter Tryz.func34, Tryz.ntmps34
  go_wp2
  go_ret
  exact ⟨rfl, rfl⟩
theorem bback_stops {wz : World} (n : Nat) (hn : 1 ≤ n) (Bs n1 Bo : Nat) (w : World) (A : Option Addr) (L : List (BG (TE wz))) (len cap : Nat) (hL : RdB w A cap L) (hl : L.length = len) (hlc : len ≤ cap) (hcm : cap ≤ 9223372036854775807) (hlen : len ≤ 1000000)
    (hBs : Bs < n1) (hos : Bs ≠ Bo) (hwn : w.heap.size ≤ n1) (hwo : w.heap.size ≤ Bo) (w1 : World) (hw0 : Below w.heap.size w w1) (hn1 : n1 ≤ w1.heap.size) (cs : w1.cell? ⟨Bs, 0, none⟩ = some (.slice A len cap)) :
    SeqStopsK Fence.wide n Tryz.prog 53 #[.pointer (some ⟨Bs, 0, none⟩)] pbEnc (KpB n1 Bo) (fun ys : List (Pb wz) => ys = uptoB (pbAt L) len) (fun pre => ∃ k, k ≤ len ∧ pre = uptoB (pbAt L) k) len w1 :=
  fun l J Jx W hW hJ _ hY h0 =>
    bback1_in n hn l Bs n1 Bo w A L len cap hL hl hlc hcm hlen hBs hos hwn hwo J Jx _ hJ hY W (below_step hw0 (hW.mono (Nat.le_refl _))) (Nat.le_trans hn1 hW.size) ((hW.cell (p := ⟨Bs, 0, none⟩) (by show Bs < _; omega)).trans cs) h0
end
section
open Go.RowKit Go.Shelf
attribute [local go_sem] Oper.semAt_some
set_option linter.unusedVariables false

theorem keepsB_of {W W' : World} {F : Nat → Prop} (h : Fr F W W') (hc : ∀ k o, F k → W.heap[k]? = some o → o.isCells = true) : KeepsOthers W W' :=
  ⟨h.size, fun k o hk ho => (h.block k (Array.getElem?_eq_some_iff.1 hk).1 (fun f => by have := hc k o f hk; rw [ho] at this; cases this)).trans hk⟩
theorem blkB_row {V : World} {g ty : Nat} {cs : Array Value} {row : Option Nat} (h : Blk V g ty cs) (hrow : ∀ k, row = some k → ∃ o, V.heap[k]? = some o ∧ o.isCells = false) : some g ≠ row := fun e => by
  obtain ⟨o, ho, hc⟩ := hrow _ e.symm
  unfold Blk at h
  rw [h] at ho
  injection ho with ho
  rw [← ho] at hc
  cases hc
theorem cell_putObjB {W : World} {D : Nat} {o o' : Obj} (h : W.heap[D]? = some o) (ho : o.isCells = false) (ho' : o'.isCells = false) (p : Addr) : (W.putObj D o').cell? p = W.cell? p := by
  by_cases e : p.block = D
  · unfold World.cell?
    rw [e, World.putObj_heap_same (Array.getElem?_eq_some_iff.1 h).1, h]
    have hn : ∀ o : Obj, o.isCells = false → (match some o with | some (.cells c _ _) => if p.spot.isSome then none else c[p.off]? | _ => none) = none := fun o h => by cases o <;> first | rfl | cases h
    exact (hn o' ho').trans (hn o ho).symm
  · exact World.cell?_of_block (World.putObj_heap_other e)
theorem blkB_newAt {W : World} {g t : Nat} {cs : Array Value} (h : W.heap.size = g) : Blk (W.alloc (.cells cs t)) g t cs := by subst h; exact Blk.new _ _ _
theorem blk_cells {W : World} {g t : Nat} {cs : Array Value} (h : Blk W g t cs) : ∀ o, W.heap[g]? = some o → o.isCells = true := fun o ho => by
  unfold Blk at h
  rw [h] at ho
  injection ho with ho
  rw [← ho]
  rfl
/-- The boxes: the name, the results. -/
structure GI (w : World) (s : List UInt8) (n1 : Nat) (r4 : Array Value) (r1 : Bool) (V : World) : Prop where
  nb : Blk V w.heap.size 9 #[.string ⟨s.toArray⟩]
  tb : Blk V (w.heap.size + 1) 35 r4
  bb : Blk V (w.heap.size + 2) 4 #[.bool r1]
  bel : Below w.heap.size w V
  n1 : n1 ≤ V.heap.size
theorem GI.own {w : World} {s : List UInt8} {n1 B : Nat} {r4 : Array Value} {r1 : Bool} {V V' : World} {row : Option Nat} (h : GI w s n1 r4 r1 V) (hB : w.heap.size ≤ B) (hg : V.grownBy V' row) (hrow : ∀ r, row = some r → B ≤ r ∧ ∃ o : Obj, V.heap[r]? = some o ∧ o.isCells = false) : GI w s n1 r4 r1 V' := by
  have h2 : ∀ k, row = some k → ∃ o, V.heap[k]? = some o ∧ o.isCells = false := fun k hk => (hrow k hk).2
  exact ⟨h.nb.grown hg (blkB_row h.nb h2), h.tb.grown hg (blkB_row h.tb h2), h.bb.grown hg (blkB_row h.bb h2), h.bel.grown hg h.bel.size (fun k e => Nat.le_trans hB (hrow k e).1), Nat.le_trans h.n1 hg.size⟩
theorem GI.keep {w : World} {s : List UInt8} {n1 : Nat} {r4 : Array Value} {r1 : Bool} {V V' : World} (h : GI w s n1 r4 r1 V) (hb : Below V.heap.size V V') : GI w s n1 r4 r1 V' :=
  ⟨h.nb.keep hb, h.tb.keep hb, h.bb.keep hb, below_step h.bel hb, Nat.le_trans h.n1 hb.size⟩
/-- The results' cells. -/
abbrev putR (W : World) (g : Nat) (v0 v1 v2 v3 : Value) (r : Bool) : World := ((((W.setCell ⟨g + 1, 0, none⟩ v0).setCell ⟨g + 1, 1, none⟩ v1).setCell ⟨g + 1, 2, none⟩ v2).setCell ⟨g + 1, 3, none⟩ v3).setCell ⟨g + 2, 0, none⟩ (.bool r)
theorem putR_fr (W : World) (g : Nat) (v0 v1 v2 v3 : Value) (r : Bool) : Fr (fun k => k = g + 1 ∨ k = g + 2) W (putR W g v0 v1 v2 v3 r) :=
  ((((Fr.setCell _ W (p := ⟨g + 1, 0, none⟩) (fun _ => .inl rfl) v0).same (Fr.setCell _ _ (p := ⟨g + 1, 1, none⟩) (fun _ => .inl rfl) v1)).same (Fr.setCell _ _ (p := ⟨g + 1, 2, none⟩) (fun _ => .inl rfl) v2)).same (Fr.setCell _ _ (p := ⟨g + 1, 3, none⟩) (fun _ => .inl rfl) v3)).same (Fr.setCell _ _ (p := ⟨g + 2, 0, none⟩) (fun _ => .inr rfl) (.bool r))
theorem GI.put {w V : World} {s : List UInt8} {n1 : Nat} {u0 u1 u2 u3 : Value} {q : Bool} (h : GI w s n1 #[u0, u1, u2, u3] q V) (v0 v1 v2 v3 : Value) (r : Bool) : GI w s n1 #[v0, v1, v2, v3] r (putR V w.heap.size v0 v1 v2 v3 r) ∧ KeepsOthers V (putR V w.heap.size v0 v1 v2 v3 r) := by
  have hfr := putR_fr V w.heap.size v0 v1 v2 v3 r
  have t1 : Blk _ _ _ #[v0, u1, u2, u3] := h.tb.set_ 0 v0
  have t2 : Blk _ _ _ #[v0, v1, u2, u3] := t1.set_ 1 v1
  have t3 : Blk _ _ _ #[v0, v1, v2, u3] := t2.set_ 2 v2
  have t4 : Blk _ _ _ #[v0, v1, v2, v3] := t3.set_ 3 v3
  have f5 := Fr.setCell (fun k => k = w.heap.size + 2) ((((V.setCell ⟨w.heap.size + 1, 0, none⟩ v0).setCell ⟨w.heap.size + 1, 1, none⟩ v1).setCell ⟨w.heap.size + 1, 2, none⟩ v2).setCell ⟨w.heap.size + 1, 3, none⟩ v3) (p := ⟨w.heap.size + 2, 0, none⟩) (fun _ => rfl) (.bool r)
  have f4 := fr_set4 V (w.heap.size + 1) v0 v1 v2 v3
  refine ⟨⟨hfr.blk h.nb (by omega), f5.blk t4 (by omega), (f4.blk h.bb (by omega)).set_ 0 (.bool r), h.bel.trans (hfr.below h.bel.size (fun k hk => by omega)), Nat.le_trans h.n1 hfr.size⟩, keepsB_of hfr ?_⟩
  rintro k o (rfl | rfl) ho
  · exact blk_cells h.tb o ho
  · exact blk_cells h.bb o ho
/-- How Get ends. -/
def GetEnd (W : World) (r : Option TV) (e : Ending) (w' : World) : Prop :=
  ∃ u : TE W, u.t = r.getD (.mk 0 0 [] []) ∧ e = .returned (.tuple #[.agg #[.int .i64 u.t.kind, .int .i64 u.t.int, .string ⟨u.t.name.toArray⟩, .slice u.A u.t.items.length u.c], .bool r.isSome]) ∧ Below W.heap.size W w'
theorem getG_upto {w0 : World} {E : List (BG (TE w0))} {s : List UInt8} : ∀ k, k ≤ E.length → (∀ y ∈ uptoB (pbAt E) k, y.2.1 ≠ s) → getG s E = getG s (E.take (E.length - k))
  | 0, _, _ => by rw [Nat.sub_zero, List.take_length]
  | k + 1, hk, h => by
    rw [uptoB_succ] at h
    rw [getG_upto k (by omega) fun y hy => h y (List.mem_append_left _ hy)]
    have h1 : E.length - (k + 1) < E.length := by omega
    rw [show E.length - k = E.length - (k + 1) + 1 by omega, getG_take h1]
    have h2 := h (pbAt E k) (List.mem_append_right _ (List.mem_singleton.2 rfl))
    rw [pbAt_at (by omega)] at h2
    simp only [show E.length - 1 - k = E.length - (k + 1) by omega] at h2
    rw [if_neg h2]
theorem getG_stop {w0 : World} {E : List (BG (TE w0))} {s : List UInt8} {k : Nat} (hk : k < E.length) (h : ∀ y ∈ uptoB (pbAt E) k, y.2.1 ≠ s) (hx : (pbAt E k).2.1 = s) : getG s E = some (pbAt E k).2.2 := by
  rw [getG_upto k (by omega) h]
  have h1 : E.length - (k + 1) < E.length := by omega
  rw [pbAt_at hk] at hx ⊢
  simp only [show E.length - 1 - k = E.length - (k + 1) by omega] at hx ⊢
  rw [show E.length - k = E.length - (k + 1) + 1 by omega, getG_take h1, if_pos hx]

set_option maxRecDepth 100000 in
set_option maxHeartbeats 4000000 in
theorem pget_any (w : World) (s : List UInt8) (E : List (BG (TE w))) (A : Option Addr) (cap : Nat) (hB : RdB w A cap E) (hlen : E.length ≤ 1000000) :
    Calls Tryz.prog 12 #[.string ⟨s.toArray⟩, .slice A E.length cap] w (GetEnd w (getG s (vE E))) := by
  have hlc := hB.1
  have hcm := hB.2.1
  obtain ⟨len, hl⟩ : ∃ len, E.length = len := ⟨_, rfl⟩
  rw [hl] at hlc hlen ⊢
  have HLN := Lib.hid hl
  have HRB := Lib.hid hB
  have HBK := Lib.hid (fun W => bback_any A len cap W)
  rw [vE_get]
  obtain ⟨GR, hGR⟩ : ∃ GR, (getG s E).map (·.t) = GR := ⟨_, rfl⟩
  rw [hGR]
  have HGR := Lib.hid hGR
  clear hl hB hGR
  have hmx : Tryz.prog.follows .mixedOrders = true := by kernel_rfl
  refine (callsIn_wide (n := 6)).1 ?_
  refine callsIn_of_wp_marks Tryz.func12 rfl trivial ?_ rfl
  simp only [Tryz.ntmps12, List.size_toArray, List.length_cons, List.length_nil, Nat.reduceAdd, Nat.reduceSub, Array.replicate_succ, Array.replicate_zero, List.push_toArray, List.append_toArray, List.nil_append, List.cons_append]
  gi_wp2_with (refine ⟨trivial, ?_⟩; gi_at_call 34; refine (callsIn_wide.2 (HBK.out _)).mono ?_; rintro e w' ⟨rfl, rfl⟩)
  obtain ⟨W0, hW0⟩ : ∃ W0, ((((w.alloc (.cells #[.string ⟨s.toArray⟩] 9)).alloc (.cells #[.int .i64 0, .int .i64 0, .string ⟨#[]⟩, .slice none 0 0] 35)).alloc (.cells #[.bool false] 4)).alloc (.cells #[.slice A len cap] 23)) = W0 := ⟨_, rfl⟩
  have hsz : W0.heap.size = w.heap.size + 4 := by rw [← hW0]; simp
  have hbo : Blk W0 w.heap.size 9 #[.string ⟨s.toArray⟩] := by rw [← hW0]; exact (((Blk.new _ _ _).alloc _).alloc _).alloc _
  have hbr : Blk W0 (w.heap.size + 1) 35 #[.int .i64 0, .int .i64 0, .string ⟨#[]⟩, .slice none 0 0] := by rw [← hW0]; exact ((blkB_newAt (by simp)).alloc _).alloc _
  have hbq : Blk W0 (w.heap.size + 2) 4 #[.bool false] := by rw [← hW0]; exact (blkB_newAt (by simp)).alloc _
  have hbs : Blk W0 (w.heap.size + 3) 23 #[.slice A len cap] := by rw [← hW0]; exact blkB_newAt (by simp)
  have hB0 : Below w.heap.size w W0 := by rw [← hW0]; exact below_step (below_step (below_step (below_alloc _ _) (below_alloc _ _)) (below_alloc _ _)) (below_alloc _ _)
  have hI0 : (∀ y ∈ ([] : List (Pb w)), y.2.1 ≠ s) ∧ GI w s W0.heap.size #[.int .i64 0, .int .i64 0, .string ⟨#[]⟩, .slice none 0 0] false W0 := ⟨by simp, hbo, hbr, hbq, hB0, Nat.le_refl _⟩
  try rw [hW0]
  clear hW0 hbo hbr hbq
  refine wpIn_rangeFunc_ownH rfl (by omega) (gf := 53) (lb := #[.pointer (some ⟨w.heap.size + 3, 0, none⟩)]) rfl trivial (enters_of Tryz.func53 (by kernel_rfl) rfl)
    (bback_stops _ (by omega) (w.heap.size + 3) W0.heap.size W0.heap.size w A E len cap HRB.out HLN.out hlc hcm hlen (by omega) (by omega) (by omega) (by omega) W0 hB0 (Nat.le_refl _) (hbs.cell 0)) kpB_t (kpB_b (Nat.le_refl _)) (Below.refl _ _) (fun _ => rfl)
    (fun (pre : List (Pb w)) W => (∀ y ∈ pre, y.2.1 ≠ s) ∧ GI w s W0.heap.size #[.int .i64 0, .int .i64 0, .string ⟨#[]⟩, .slice none 0 0] false W)
    (fun c pre W => c = .ret ∧ ∃ (p : List (Pb w)) (x : Pb w), pre = p ++ [x] ∧ x.2.1 = s ∧ (∀ y ∈ p, y.2.1 ≠ s) ∧ GI w s W0.heap.size #[.int .i64 x.2.2.t.kind, .int .i64 x.2.2.t.int, .string ⟨x.2.2.t.name.toArray⟩, .slice x.2.2.A x.2.2.t.items.length x.2.2.c] true W)
    (fun pre W W' row h hg hr => ⟨h.1, h.2.own (by omega) hg hr⟩)
    (fun c pre W W' row h hg hr => by
      obtain ⟨hc, p, x, h1, h2, h3, h4⟩ := h
      exact ⟨hc, p, x, h1, h2, h3, h4.own (by omega) hg hr⟩)
    hI0
    (fun x a' W => ∃ Bt, Blk W Bt 52 #[.string ⟨x.2.1.toArray⟩, .int .i64 x.2.2.t.kind, .int .i64 x.2.2.t.int, .string ⟨x.2.2.t.name.toArray⟩, .slice x.2.2.A x.2.2.t.items.length x.2.2.c] ∧ a' = { tmps := #[.string ⟨s.toArray⟩, .slice A len cap, .pointer (some ⟨w.heap.size, 0, none⟩), undef, .pointer (some ⟨w.heap.size + 1, 0, none⟩), .pointer (some ⟨w.heap.size + 2, 0, none⟩), undef, .pointer (some ⟨Bt, 0, none⟩), .slice A len cap,
      .func (.func 53) #[] #[.pointer (some ⟨w.heap.size + 3, 0, none⟩)], .int .i64 x.1, .agg #[.string ⟨x.2.1.toArray⟩, .int .i64 x.2.2.t.kind, .int .i64 x.2.2.t.int, .string ⟨x.2.2.t.name.toArray⟩, .slice x.2.2.A x.2.2.t.items.length x.2.2.c], undef, undef, undef, undef, undef, undef, undef], defers := [] }) ?ax ?assign ?body ?done ?stop
  case ax =>
    rintro x a' _ W W' row ⟨Bt, h1, h5⟩ hg hrow
    exact ⟨Bt, h1.grown hg (blkB_row h1 (fun k hk => (hrow k hk).2)), h5⟩
  case assign =>
    rintro l pre x W K ⟨hn, hI⟩ hK
    unfold pbEnc
    gi_wp2
    exact hK _ _ ((KeepsOthers.alloc W _).from _) (Fr.alloc _ _ _) ⟨hn, hI.keep (below_alloc _ _)⟩ ⟨W.heap.size, Blk.new _ _ _, rfl⟩
  case body =>
    rintro l pre x a' W hl hlr ⟨hn, hI⟩ ⟨Bt, hx, rfl⟩ hlt
    clear hI0 hbs hlt hl hlr
    have z0 := hI.nb.cell 0
    have x0 := hx.cell 0
    have x1 := hx.cell 1
    have x2 := hx.cell 2
    have x3 := hx.cell 3
    have x4 := hx.cell 4
    have f0 := hI.tb.frozen 0
    have f1 := hI.tb.frozen 1
    have f2 := hI.tb.frozen 2
    have f3 := hI.tb.frozen 3
    have g0 := hI.bb.frozen 0
    have y0 := hI.tb.cell 0
    have y1 := hI.tb.cell 1
    have y2 := hI.tb.cell 2
    have y3 := hI.tb.cell 3
    have b0 := hI.bb.cell 0
    have HI := Lib.hid hI
    have HN := Lib.hid hn
    cases hq : (x.2.1 == s) with
    | false =>
      have HQ := Lib.hid (show x.2.1 ≠ s by simpa using hq)
      clear hI hx hn
      gi_wp2
      exact ⟨(KeepsOthers.refl W).from _, Fr.refl _ _, fun y hy => by
        rcases List.mem_append.1 hy with hy | hy
        · exact HN.out y hy
        · rw [List.mem_singleton.1 hy]; exact HQ.out, HI.out⟩
    | true =>
      have HQ := Lib.hid (show x.2.1 = s by simpa using hq)
      clear hI hx hn
      gi_wp2
      obtain ⟨h1, h2⟩ := HI.out.put (.int .i64 x.2.2.t.kind) (.int .i64 x.2.2.t.int) (.string ⟨x.2.2.t.name.toArray⟩) (.slice x.2.2.A x.2.2.t.items.length x.2.2.c) true
      exact ⟨h2.from _, rfl, pre, x, rfl, HQ.out, HN.out, h1⟩
  case done =>
    rintro D ys W hD rfl ⟨hn, hI⟩ hK
    clear hI0 hbs
    have hg : getG s E = none := by
      rw [getG_upto len (by rw [HLN.out]; exact Nat.le_refl _) hn, show E.length - len = 0 by rw [HLN.out]; omega, List.take_zero]
      rfl
    have HG2 := Lib.hid (show GR = none from by rw [← HGR.out, hg]; rfl)
    have f0 := hI.tb.frozen 0
    have f1 := hI.tb.frozen 1
    have f2 := hI.tb.frozen 2
    have f3 := hI.tb.frozen 3
    have g0 := hI.bb.frozen 0
    have y0 := hI.tb.cell 0
    have y1 := hI.tb.cell 1
    have y2 := hI.tb.cell 2
    have y3 := hI.tb.cell 3
    have b0 := hI.bb.cell 0
    have HI := Lib.hid hI
    clear hI hn hg
    gi_wp2
    obtain ⟨h1, h2⟩ := HI.out.put (.int .i64 0) (.int .i64 0) (.string ⟨#[]⟩) (.slice none 0 0) false
    have k3 := h2.same D _ hK rfl
    refine ⟨by simp, .inl ⟨_, _, rfl, run_takeDeferred k3, ?_⟩⟩
    have hp := fun p => cell_putObjB k3 (o' := .deferred none) rfl rfl p
    have c0 := (hp ⟨w.heap.size + 1, 0, none⟩).trans (h1.tb.cell 0)
    have c1 := (hp ⟨w.heap.size + 1, 1, none⟩).trans (h1.tb.cell 1)
    have c2 := (hp ⟨w.heap.size + 1, 2, none⟩).trans (h1.tb.cell 2)
    have c3 := (hp ⟨w.heap.size + 1, 3, none⟩).trans (h1.tb.cell 3)
    have c4 := (hp ⟨w.heap.size + 2, 0, none⟩).trans (h1.bb.cell 0)
    refine ⟨.tuple #[.agg #[.int .i64 0, .int .i64 0, .string ⟨#[]⟩, .slice none 0 0], .bool false], ?_, ⟨⟨.mk 0 0 [] [], none, 0, rdm_nil w⟩, by rw [HG2.out]; rfl, by rw [HG2.out]; rfl, h1.bel.trans (belowK_b (w := w) (Nat.le_refl _) _ D _ _ (by omega) k3 rfl rfl)⟩⟩
    simp [results, Tryz.results12, go_sem, c0, c1, c2, c3, c4]
  case stop =>
    rintro D c pre W hD ⟨k, hk, hpre⟩ ⟨rfl, p, x, h1, h2, h3, hI⟩ hK
    clear hI0 hbs
    have hg : getG s E = some x.2.2 := by
      rw [hpre] at h1
      obtain _ | j := k
      · exact absurd h1 (by simp [uptoB])
      · rw [uptoB_succ] at h1
        obtain ⟨e1, e2⟩ := List.append_inj' h1 rfl
        have e3 : pbAt E j = x := by simpa using e2
        rw [← e3]
        exact getG_stop (by rw [HLN.out]; omega) (by rw [e1]; exact h3) (by rw [e3]; exact h2)
    have HG2 := Lib.hid (show GR = some x.2.2.t from by rw [← HGR.out, hg]; rfl)
    have HI := Lib.hid hI
    clear hI h1 h2 h3 hg hpre
    gi_wp2
    refine ⟨by simp, .inl ⟨_, _, rfl, run_takeDeferred hK, ?_⟩⟩
    have hp := fun p => cell_putObjB hK (o' := .deferred none) rfl rfl p
    have c0 := (hp ⟨w.heap.size + 1, 0, none⟩).trans (HI.out.tb.cell 0)
    have c1 := (hp ⟨w.heap.size + 1, 1, none⟩).trans (HI.out.tb.cell 1)
    have c2 := (hp ⟨w.heap.size + 1, 2, none⟩).trans (HI.out.tb.cell 2)
    have c3 := (hp ⟨w.heap.size + 1, 3, none⟩).trans (HI.out.tb.cell 3)
    have c4 := (hp ⟨w.heap.size + 2, 0, none⟩).trans (HI.out.bb.cell 0)
    refine ⟨.tuple #[.agg #[.int .i64 x.2.2.t.kind, .int .i64 x.2.2.t.int, .string ⟨x.2.2.t.name.toArray⟩, .slice x.2.2.A x.2.2.t.items.length x.2.2.c], .bool true], ?_, ⟨x.2.2, by rw [HG2.out]; rfl, by rw [HG2.out]; rfl, HI.out.bel.trans (belowK_b (w := w) (Nat.le_refl _) _ D _ _ (by omega) hK rfl rfl)⟩⟩
    simp [results, Tryz.results12, go_sem, c0, c1, c2, c3, c4]
end
end Go.Proofs.YtmpknhdfglbocaaGreat
