/- The box's Each of layer 17: the walk of its iterator. -/
import Derived.RangeFuncNested
import Derived.RangeFuncBound
import Derived.RangeFuncCalls
import Derived.RangeFuncLeaves
import Derived.Shelf.Abstract
import Derived.Shelf.RegionOpen
import Derived.OwnWalkIn
import Derived.TacticsInMore
import Derived.LoopNIn
import Derived.LoopIn
import Derived.Test.YthmlpiiajlfmcaaMTake
namespace Go.Proofs.Ythmlpiiajlfmcaa
open Go.RowKit Go.Shelf
attribute [local go_sem] Oper.semAt_some
set_option linter.unusedVariables false

/-- What the round's body keeps: all that lay there when the loop began, but the block Bo. -/
def KpC (n1 Bo : Nat) : World → World → Prop := Fr (fun k => k = Bo ∨ n1 ≤ k)
theorem kpC_t {n1 Bo : Nat} {A B C : World} (h : KpC n1 Bo A B) (k : KpC n1 Bo B C) : KpC n1 Bo A C := Fr.same h k
theorem kpC_b {n1 Bo : Nat} {w : World} (hn : n1 ≤ w.heap.size) (W : World) (l : Nat) (o o' : Obj) (hl : w.heap.size ≤ l) (h : W.heap[l]? = some o) (_ : o.isCells = false) (_ : o.isWalk = false) : KpC n1 Bo W (W.putObj l o') :=
  Fr.of_grown (grownBy_putObj' W l o') (fun k e _ => by cases e; exact .inr (by omega))

section
variable {w0 W W' : World}
theorem own_fr {base e size n : Nat} {v : Value} {cs : List Value} {F : Nat → Prop} (ho : W.ownsRow base e size v n cs) (hf : Fr F W W') (hg : ∀ g, v.ownBlock = some g → ¬ F g) : W'.ownsRow base e size v n cs := by
  refine ⟨ho.1, ?_⟩
  rcases ho.2 with h | ⟨g, cap, cur, hv, hb, hh, h1, h2, h3, h4⟩
  · exact .inl h
  · exact .inr ⟨g, cap, cur, hv, hb, (hf.block g (Array.getElem?_eq_some_iff.1 hh).1 (hg g (by rw [hv]; rfl))).trans hh, h1, h2, h3, h4⟩
theorem BoxAt.fr {pb : Nat} {A : Option Addr} {cap : Nat} {es : List (TE w0)} {F : Nat → Prop} (h : BoxAt w0 pb A cap es W) (hf : Fr F W W') (hp : ¬ F pb) (hg : ∀ g, (Value.slice A es.length cap).ownBlock = some g → ¬ F g) (hw : ∀ k, F k → w0.heap.size ≤ k) : BoxAt w0 pb A cap es W' :=
  ⟨hf.blk h.obj hp, own_fr h.row hf hg, h.bel.trans (hf.below h.bel.size hw), h.lo, h.ok⟩
/-- A box or nil. -/
inductive BoxV (w0 : World) (n1 Bo : Nat) : Value → List (TE w0) → World → Prop
  | none {W : World} : BoxV w0 n1 Bo (.pointer none) [] W
  | some {pb : Nat} {A : Option Addr} {cap : Nat} {es : List (TE w0)} {W : World} (h : BoxAt w0 pb A cap es W) (hp : pb < n1 ∧ pb ≠ Bo) (hg : ∀ g, (Value.slice A es.length cap).ownBlock = .some g → g < n1 ∧ g ≠ Bo) : BoxV w0 n1 Bo (.pointer (.some ⟨pb, 0, Option.none⟩)) es W
theorem BoxV.fr {n1 Bo : Nat} {v : Value} {es : List (TE w0)} (h : BoxV w0 n1 Bo v es W) (hf : KpC n1 Bo W W') (hB : w0.heap.size ≤ Bo) (hn : w0.heap.size ≤ n1) : BoxV w0 n1 Bo v es W' := by
  cases h with
  | none => exact .none
  | some h hp hg => exact .some (h.fr hf (by omega) (fun g e => by have := hg g e; omega) (fun k e => by omega)) hp hg
theorem blen_v {n1 Bo : Nat} {v : Value} {es : List (TE w0)} (h : BoxV w0 n1 Bo v es W) : Calls Try.prog 20 #[v] W fun e w' => e = .returned (.int .i64 (es.length : Nat)) ∧ W = w' := by
  cases h with
  | none => exact blen_nil W
  | some h _ _ => exact blen_any h
end

def teEnc (w0 : World) (x : TE w0 × Nat) : Array Value := #[.int .i64 (x.2 : Int), x.1.agg]

set_option maxRecDepth 100000 in
set_option maxHeartbeats 2000000 in
theorem each1_in (n : Nat) (hn : 1 ≤ n) (l Bb n1 Bo : Nat) (w0 : World) (v : Value) (es : List (TE w0)) (hes : es.length ≤ 1000) (hBo : w0.heap.size ≤ Bo) (hw0 : w0.heap.size ≤ n1)
    (hBb : Bb < n1) (hob : Bb ≠ Bo) (J Jx : List (TE w0 × Nat) → World → Prop) (B0 : Nat) (hJ : AbidesFrom B0 J)
    (hY : ∀ pre x W, J pre W → pre.length < es.length → YieldAt Fence.wide (n - 1) Try.prog l (teEnc w0 x) W fun e W' =>
      (e = .returned (.bool true) ∧ J (pre ++ [x]) W' ∧ KpC n1 Bo W W') ∨ (e = .returned (.bool false) ∧ Jx (pre ++ [x]) W'))
    (W : World) (hn1 : n1 ≤ W.heap.size) (cb : W.cell? ⟨Bb, 0, none⟩ = some v) (hbox : BoxV w0 n1 Bo v es W) (h0 : J [] W) :
    CallsIn Fence.wide n Try.prog 39 #[.func (.yield l) #[] #[], .pointer (some ⟨Bb, 0, none⟩)] W fun e W' => (∃ v, e = .returned v) ∧
      ((∃ ys, ys = es.zipIdx ∧ J ys W') ∨ (∃ pre, (∃ k, k ≤ es.length ∧ pre = es.zipIdx.take k) ∧ Jx pre W')) := by
  obtain ⟨len, hlen⟩ : ∃ len, es.length = len := ⟨_, rfl⟩
  have HLEN := Lib.hid hlen
  rw [hlen] at hes
  refine callsIn_of_wp Try.func39 rfl trivial ?_ rfl
  simp only [Try.ntmps39, List.size_toArray, List.length_cons, List.length_nil, Nat.reduceAdd, Nat.reduceSub, Array.replicate_succ, Array.replicate_zero, List.push_toArray, List.append_toArray, List.nil_append, List.cons_append]
  gi_wp2
  gi_loopw [3] (fun i wr => ∃ k : Nat, k ≤ len ∧ i = .int .i64 (k : Int) ∧ J (es.zipIdx.take k) wr ∧ KpC n1 Bo W wr)
    (fun i _ => len + 1 - (intOf i).toNat)
  case atStart => exact ⟨0, Nat.zero_le _, by simp, by simpa using h0, Fr.refl _ _⟩
  case round =>
    obtain ⟨k, hk, rfl, hJs, hnx⟩ := hrel
    have cb' : wr.cell? ⟨Bb, 0, none⟩ = some v := (World.cell?_of_block (hnx.block Bb (by omega) (fun h => by omega))).trans cb
    have hbx := hbox.fr hnx hBo hw0
    have HLN := Lib.hid (blen_v hbx)
    rw [hlen] at HLN
    by_cases hlt : k < len
    · have hd1 : decide (k < len) = true := by simp; omega
      have hke : k < es.length := by omega
      cases hbx with
      | none => simp at hke
      | @some pb A cap _ _ hB hp hg =>
        obtain ⟨g, tl, rfl, _, _, hnc, hcm, _⟩ := own_open hB.row (by omega)
        obtain ⟨z0, z1, z2, z3⟩ := own_cell hB.row hke
        have c0 := hB.obj.cell 0
        rw [hlen] at c0
        obtain ⟨fn, tmps, assign, body, hy, hR⟩ := hY _ (es[k], k) wr hJs (by simp; omega)
        unfold teEnc TE.agg at hy
        have HUS := Lib.hid (show es.zipIdx.take k ++ [(es[k], k)] = es.zipIdx.take (k + 1) by rw [List.take_succ_eq_append_getElem (by simpa using hke)]; simp)
        have q1 : (0 : Int) ≤ (k : Int) := by omega
        have q2 : (k : Int) < (len : Int) := by omega
        clear hlen HLEN
        gi_wp2_with (first | (refine ⟨trivial, ?_⟩; gi_at_call 20; refine (callsIn_wide.2 HLN.out).mono ?_; rintro e w' ⟨rfl, rfl⟩))
        refine hR.mono ?_
        rintro e W3 (⟨rfl, hJ3, hk3⟩ | ⟨rfl, hJx3⟩)
        · gi_wp2
          go_roundw
          case rel => exact ⟨k + 1, hlt, by go_num, by rw [← HUS.out]; exact hJ3, Fr.same hnx hk3⟩
          case measure => simp [intOf]; omega
        · gi_wp2
          refine bodyPost_ret (results_none rfl _ _ _) rfl ?_
          exact ⟨⟨_, rfl⟩, .inr ⟨_, ⟨k + 1, hke, HUS.out⟩, hJx3⟩⟩
    · obtain rfl : k = len := by omega
      have hd1 : decide (k < k) = false := by simp
      gi_wp2_with (first | (refine ⟨trivial, ?_⟩; gi_at_call 20; refine (callsIn_wide.2 HLN.out).mono ?_; rintro e w' ⟨rfl, rfl⟩))
      go_end0
      exact ⟨⟨_, rfl⟩, .inl ⟨_, rfl, by rw [List.take_of_length_le (by simp; omega)] at hJs; exact hJs⟩⟩

theorem each_stops (n : Nat) (hn : 1 ≤ n) (Bb n1 Bo : Nat) (w0 : World) (v : Value) (es : List (TE w0)) (hes : es.length ≤ 1000) (hBo : w0.heap.size ≤ Bo) (hw0 : w0.heap.size ≤ n1) (hBb : Bb < n1) (hob : Bb ≠ Bo) (w : World) (hn1 : n1 ≤ w.heap.size) (cb : w.cell? ⟨Bb, 0, none⟩ = some v) (hbox : BoxV w0 n1 Bo v es w) :
    SeqStopsK Fence.wide n Try.prog 39 #[.pointer (some ⟨Bb, 0, none⟩)] (teEnc w0) (KpC n1 Bo) (fun ys => ys = es.zipIdx) (fun pre => ∃ k, k ≤ es.length ∧ pre = es.zipIdx.take k) es.length w :=
  fun l J Jx W hW hJ _ hY h0 =>
    each1_in n hn l Bb n1 Bo w0 v es hes hBo hw0 hBb hob J Jx _ hJ hY W (Nat.le_trans hn1 hW.size) ((hW.cell (p := ⟨Bb, 0, none⟩) (by show Bb < _; omega)).trans cb) (hbox.fr (Fr.of_below hW _) hBo hw0) h0
theorem beach_any (v : Value) (w : World) (hv : v.oneCell' = true) : Calls Try.prog 31 #[v] w fun e w' =>
    e = .returned (.func (.func 39) #[] #[.pointer (some ⟨w.heap.size, 0, none⟩)]) ∧ w' = w.alloc (.cells #[v] 26) := by
  go_enter Try.func31, Try.ntmps31
  go_wp2
  go_ret
  exact ⟨rfl, rfl⟩
end Go.Proofs.Ythmlpiiajlfmcaa
