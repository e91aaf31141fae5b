/- slices.Chunk of bytes: the walk of its iterator, for every body of a loop that keeps its two boxes. -/
import Derived.RangeFuncNested
import Derived.RangeFuncBound
import Derived.RangeFuncCalls
import Derived.RangeFuncLeaves
import Derived.Shelf.Abstract
import Derived.Shelf.RegionOpen
import Derived.WalkKit
import Derived.OwnWalkIn
import Derived.TacticsInMore
import Derived.LoopNIn
import Derived.LoopIn
import Derived.Test.YthdhinhedgcbcaaFr
import Derived.Test.YthdhinhedgcbcaaLibB
namespace Go.Proofs.Ythdhinhedgcbcaa
open Go.RowKit Go.Shelf
attribute [local go_sem] Oper.semAt_some
set_option linter.unusedVariables false

/-- What has come when k rounds are over. -/
def upto {α : Type} (f : Nat → α) (k : Nat) : List α := (List.range k).map f
theorem upto_succ {α : Type} (f : Nat → α) (k : Nat) : upto f (k + 1) = upto f k ++ [f k] := by simp [upto, List.range_succ]
theorem upto_length {α : Type} (f : Nat → α) (k : Nat) : (upto f k).length = k := by simp [upto]

theorem rd_part {w : World} {A : Option Addr} {l : List UInt8} (h : Rd w A l) (p n : Nat) : Rd w (A.map fun x => x.add p) ((l.drop p).take n) := by
  rcases h with rfl | ⟨b, off, rfl, h⟩
  · exact .inl (by simp)
  · refine .inr ⟨b, off + p, by simp [Addr.add_lit], fun j hj => ?_⟩
    have hj' : p + j < l.length := by simp at hj; omega
    rw [Nat.add_assoc, h (p + j) hj']
    simp

/-- A piece: where it lies, and its bytes. -/
abbrev Pc (w : World) := { x : Option Addr × List UInt8 // Rd w x.1 x.2 ∧ x.2.length ≤ 100000 }
def pcEnc (w : World) (x : Pc w) : Array Value := #[.slice x.1.1 x.1.2.length x.1.2.length]
def pcAt {r : Nat} {w : World} {A : Option Addr} {l : List UInt8} (h : Rd w A l ∧ r ≤ 100000) (j : Nat) : Pc w := ⟨(A.map fun x => x.add (j * r), (l.drop (j * r)).take r), rd_part h.1 (j * r) r, Nat.le_trans (List.length_take_le _ _) h.2⟩
/-- What the round's body keeps: all that lay there when the loop began, but the block Bo. -/
def KpC (n1 Bo : Nat) : World → World → Prop := Fr (fun k => k = Bo ∨ n1 ≤ k)
theorem kpC_t {n1 Bo : Nat} {A B C : World} (h : KpC n1 Bo A B) (k : KpC n1 Bo B C) : KpC n1 Bo A C := Fr.same h k
theorem kpC_b {n1 Bo : Nat} {w : World} (hn : n1 ≤ w.heap.size) (W : World) (l : Nat) (o o' : Obj) (hl : w.heap.size ≤ l) (h : W.heap[l]? = some o) (_ : o.isCells = false) (_ : o.isWalk = false) : KpC n1 Bo W (W.putObj l o') :=
  Fr.of_grown (grownBy_putObj' W l o') (fun k e _ => by cases e; exact .inr (by omega))

theorem pieces_lt {n r k : Nat} (hr : 1 ≤ r) (hk : k < (n + r - 1) / r) : k * r < n := by
  have h1 : (k + 1) * r ≤ (n + r - 1) / r * r := Nat.mul_le_mul_right _ hk
  have h2 := Nat.div_mul_le_self (n + r - 1) r
  rw [Nat.succ_mul] at h1
  omega
theorem pieces_ge {n r : Nat} (hr : 1 ≤ r) : n ≤ (n + r - 1) / r * r := by
  have h1 := Nat.lt_mul_div_succ (n + r - 1) (show 0 < r by omega)
  rw [Nat.mul_add, Nat.mul_one, Nat.mul_comm] at h1
  omega
theorem pieces_bd {n r k : Nat} (hr : 1 ≤ r) (hk : k ≤ (n + r - 1) / r) : k * r ≤ n + r := by
  have h1 : k * r ≤ (n + r - 1) / r * r := Nat.mul_le_mul_right _ hk
  have h2 := Nat.div_mul_le_self (n + r - 1) r
  omega

set_option maxRecDepth 100000 in
set_option maxHeartbeats 2000000 in
theorem chunk1_in {r : Nat} (n : Nat) (hn : 1 ≤ n) (l Bs Bn n1 Bo : Nat) (w : World) (A : Option Addr) (bs : List UInt8) (len cap : Nat) (hrd : Rd w A bs ∧ r ≤ 100000) (hbl : bs.length = len) (hlc : len ≤ cap) (hcm : cap ≤ 9223372036854775807) (hlen : len ≤ 1000000) (hr1 : 1 ≤ r)
    (hBs : Bs < n1) (hBn : Bn < n1) (hos : Bs ≠ Bo) (hon : Bn ≠ Bo) (J Jx : List (Pc w) → World → Prop) (B0 : Nat) (hJ : AbidesFrom B0 J)
    (hY : ∀ pre x W, J pre W → pre.length < (len + r - 1) / r → YieldAt Fence.wide (n - 1) Try.prog l (pcEnc w x) W fun e W' =>
      (e = .returned (.bool true) ∧ J (pre ++ [x]) W' ∧ KpC n1 Bo W W') ∨ (e = .returned (.bool false) ∧ Jx (pre ++ [x]) W'))
    (W : World) (hn1 : n1 ≤ W.heap.size) (cs : W.cell? ⟨Bs, 0, none⟩ = some (.slice A len cap)) (cn : W.cell? ⟨Bn, 0, none⟩ = some (.int .i64 (r : Int))) (h0 : J [] W) :
    CallsIn Fence.wide n Try.prog 27 #[.func (.yield l) #[] #[], .pointer (some ⟨Bs, 0, none⟩), .pointer (some ⟨Bn, 0, none⟩)] W fun e W' => (∃ v, e = .returned v) ∧
      ((∃ ys, ys = upto (pcAt hrd) ((len + r - 1) / r) ∧ J ys W') ∨ (∃ pre, (∃ k, k ≤ (len + r - 1) / r ∧ pre = upto (pcAt hrd) k) ∧ Jx pre W')) := by
  have hr2 := hrd.2
  have HBL := Lib.hid hbl
  clear hbl
  have hmx : Try.prog.follows .mixedOrders = true := by kernel_rfl
  refine callsIn_of_wp Try.func27 rfl trivial ?_ rfl
  simp only [Try.ntmps27, List.size_toArray, List.length_cons, List.length_nil, Nat.reduceAdd, Nat.reduceSub, Array.replicate_succ, Array.replicate_zero, List.push_toArray, List.append_toArray, List.nil_append, List.cons_append]
  gi_wp2
  gi_loopw [4] (fun i wr => ∃ k : Nat, k ≤ (len + r - 1) / r ∧ i = .int .i64 ((k * r : Nat) : Int) ∧ J (upto (pcAt hrd) k) wr ∧ KpC n1 Bo W wr)
    (fun i _ => len + r - (intOf i).toNat)
  case atStart => exact ⟨0, Nat.zero_le _, by simp, h0, Fr.refl _ _⟩
  case round =>
    obtain ⟨k, hk, rfl, hJs, hnx⟩ := hrel
    have cs' : wr.cell? ⟨Bs, 0, none⟩ = some (.slice A len cap) := (World.cell?_of_block (hnx.block Bs (by omega) (fun h => by omega))).trans cs
    have cn' : wr.cell? ⟨Bn, 0, none⟩ = some (.int .i64 (r : Int)) := (World.cell?_of_block (hnx.block Bn (by omega) (fun h => by omega))).trans cn
    have hbd := pieces_bd hr1 hk
    by_cases hlt : k < (len + r - 1) / r
    · have hkl := pieces_lt hr1 hlt
      have hJd : J (upto (pcAt hrd) k) wr.drew := hJ _ _ _ none hJs ⟨rfl, rfl, rfl, Nat.le_refl _, fun _ _ _ => rfl⟩ (fun r e => by cases e)
      have hnd : KpC n1 Bo W wr.drew := Fr.drew hnx
      obtain ⟨fn, tmps, assign, body, hy, hR⟩ := hY _ (pcAt hrd k) wr.drew hJd (by rw [upto_length]; exact hlt)
      have hpl : (pcAt hrd k).1.2.length = min r (len - k * r) := by simp [pcAt, HBL.out]
      unfold pcEnc at hy
      rw [hpl] at hy
      obtain ⟨b, off, rfl, _, _⟩ := hrd.1.at_ (show k * r < bs.length by rw [HBL.out]; exact hkl)
      have ha : (pcAt hrd k).1.1 = some ⟨b, off + k * r, none⟩ := by simp [pcAt, Addr.add_lit]
      rw [ha] at hy
      have HUS := Lib.hid (upto_succ (pcAt hrd) k)
      have HKS := Lib.hid (Nat.succ_mul k r)
      have hrel2 : ∀ W3, J (upto (pcAt hrd) k ++ [pcAt hrd k]) W3 → KpC n1 Bo wr.drew W3 → ∃ k' : Nat, k' ≤ (len + r - 1) / r ∧ Value.int .i64 ((k * r : Nat) + (r : Nat) : Int) = .int .i64 ((k' * r : Nat) : Int) ∧ J (upto (pcAt hrd) k') W3 ∧ KpC n1 Bo W W3 :=
        fun W3 h1 h2 => ⟨k + 1, hlt, by rw [HKS.out]; simp, by rw [HUS.out]; exact h1, Fr.same hnd h2⟩
      have HR2 := Lib.hid hrel2
      clear hrel2 hJs hnx
      generalize hki : k * r = ki at *
      have hd1 : decide (ki < len) = true := by simp; omega
      have q1 : ¬ cap = ki := by omega
      clear hki hpl ha
      have hcsd : ∀ W3, KpC n1 Bo wr.drew W3 → W3.cell? ⟨Bn, 0, none⟩ = some (.int .i64 (r : Int)) := fun W3 h => (World.cell?_of_block ((Fr.same hnd h).block Bn (by omega) (fun h => by omega))).trans cn
      have HCN := Lib.hid hcsd
      clear hcsd
      by_cases hmin : len - ki < r
      · rw [Nat.min_eq_right (by omega)] at hy
        have z1 : ((ki : Int) + ((len - ki : Nat) : Int)).toNat - ki = len - ki := by omega
        gi_wp2
        gi_region_o
        gi_wp2
        refine hR.mono ?_
        rintro e W3 (⟨rfl, hJ3, hk3⟩ | ⟨rfl, hJx3⟩)
        · have cn3 := HCN.out W3 hk3
          gi_wp2
          go_roundw
          case rel => exact HR2.out W3 hJ3 hk3
          case measure => simp [intOf]; omega
        · gi_wp2
          refine bodyPost_ret (results_none rfl _ _ _) rfl ?_
          exact ⟨⟨_, rfl⟩, .inr ⟨_, ⟨k + 1, hlt, HUS.out.symm⟩, hJx3⟩⟩
      · rw [Nat.min_eq_left (by omega)] at hy
        have z1 : ((ki : Int) + (r : Int)).toNat - ki = r := by omega
        gi_wp2
        gi_region_o
        gi_wp2
        refine hR.mono ?_
        rintro e W3 (⟨rfl, hJ3, hk3⟩ | ⟨rfl, hJx3⟩)
        · have cn3 := HCN.out W3 hk3
          gi_wp2
          go_roundw
          case rel => exact HR2.out W3 hJ3 hk3
          case measure => simp [intOf]; omega
        · gi_wp2
          refine bodyPost_ret (results_none rfl _ _ _) rfl ?_
          exact ⟨⟨_, rfl⟩, .inr ⟨_, ⟨k + 1, hlt, HUS.out.symm⟩, hJx3⟩⟩
    · obtain rfl : k = (len + r - 1) / r := by omega
      have hge := pieces_ge (n := len) hr1
      generalize hki : (len + r - 1) / r * r = ki at *
      have hd1 : decide (ki < len) = false := by simp; omega
      clear hki
      gi_wp2
      go_end0
      exact ⟨⟨_, rfl⟩, .inl ⟨_, rfl, hJs⟩⟩
end Go.Proofs.Ythdhinhedgcbcaa
