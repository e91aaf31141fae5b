/- A disk in memory; the walks of its functions that only look: Blocks, Size, has, block, Dead. -/
import Derived.Test.YtcnhfbckaacalaaProg
import Derived.Test.YtcnhfbckaacalaaFr
import Derived.Test.YtcnhfbckaacalaaDead
import Derived.Deep.QuietTactic
import Derived.BigQuiet
import Derived.IntWalk
import Derived.Outline
import Derived.Deep.Cut
import Derived.Deep.DeepMust
namespace Go.Proofs.Ytcnhfbckaacalaa
open Go.RowKit
set_option linter.unusedVariables false

def iv (n : Int) : Value := .int .i64 n

/-- What a disk is: its size, how many blocks, their bytes, the writes, how many are left, whether the power is off. -/
structure DS where
  size : Nat
  nb : Nat
  bytes : List UInt8
  log : List Int
  left : Int
  off : Bool

/-- Where its parts lie. -/
structure Pl where
  gb : Nat
  cap : Nat
  tl : List Value
  lv : Value
  ch : Nat
  s : Nat
  r : Nat

/-- The blocks that are its own. -/
def Pl.F (pd : Nat) (p : Pl) (k : Nat) : Prop := k = pd ∨ k = p.gb ∨ p.lv.ownBlock = some k ∨ k = p.ch

structure DS.Ok (d : DS) : Prop where
  s1 : 64 ≤ d.size
  s2 : d.size ≤ 4096
  n1 : 1 ≤ d.nb
  n2 : d.nb ≤ 16384
  len : d.bytes.length = d.nb * d.size
  l1 : -1 ≤ d.left
  l2 : d.left ≤ 9223372036854775807
  lg : d.log.length ≤ 1000000

structure DiskAt (pd : Nat) (p : Pl) (d : DS) (w : World) : Prop where
  obj : Blk w pd 71 #[.int .i64 (d.size : Int), .slice (some ⟨p.gb, 0, none⟩) d.bytes.length p.cap, p.lv, .int .i64 d.left, .chan (some p.ch)]
  row : Blk w p.gb 5 (d.bytes.map bv ++ p.tl).toArray
  cap : d.bytes.length ≤ p.cap
  capm : p.cap ≤ 9223372036854775807
  log : w.ownsRow 0 3 1 p.lv d.log.length (d.log.map iv)
  chan : w.heap[p.ch]? = some (.chan 0 #[] d.off p.s p.r false)

theorem DiskAt.keep {pd : Nat} {p : Pl} {d : DS} {w w' : World} (h : DiskAt pd p d w) (hb : Below w.heap.size w w') : DiskAt pd p d w' := by
  have hlt : p.ch < w.heap.size := (Array.getElem?_eq_some_iff.1 h.chan).1
  refine ⟨h.obj.keep hb, h.row.keep hb, h.cap, h.capm, ?_, (hb.block _ hlt).trans h.chan⟩
  exact h.log.kept (grown_of_below hb none) (by cases p.lv.ownBlock <;> simp)
theorem DiskAt.lt {pd : Nat} {p : Pl} {d : DS} {w : World} (h : DiskAt pd p d w) : ∀ k, p.F pd k → k < w.heap.size := by
  rintro k (rfl | rfl | hk | rfl)
  · exact h.obj.lt
  · exact h.row.lt
  · exact (h.log.lt k hk).2
  · exact (Array.getElem?_eq_some_iff.1 h.chan).1

/-- A fact behind a name for the walk: the cells of the struct. -/
theorem DiskAt.cells {pd : Nat} {p : Pl} {d : DS} {w : World} (h : DiskAt pd p d w) :
    w.cell? ⟨pd, 0, none⟩ = some (.int .i64 (d.size : Int)) ∧ w.cell? ⟨pd, 1, none⟩ = some (.slice (some ⟨p.gb, 0, none⟩) d.bytes.length p.cap) ∧ w.cell? ⟨pd, 2, none⟩ = some p.lv ∧ w.cell? ⟨pd, 3, none⟩ = some (.int .i64 d.left) ∧ w.cell? ⟨pd, 4, none⟩ = some (.chan (some p.ch)) :=
  ⟨h.obj.cell 0, h.obj.cell 1, h.obj.cell 2, h.obj.cell 3, h.obj.cell 4⟩

theorem dead_any {pd : Nat} {p : Pl} {d : DS} {w : World} (h : DiskAt pd p d w) : Calls Try.prog 39 #[.pointer (some ⟨pd, 0, none⟩)] w fun e w' => e = .returned (.bool d.off) ∧ w = w' := by
  have hc := h.chan
  cases ho : d.off with
  | false => rw [ho] at hc; exact dead_live pd p.ch p.s p.r w h.cells.2.2.2.2 hc
  | true => rw [ho] at hc; exact dead_off pd p.ch p.s p.r w h.cells.2.2.2.2 hc

theorem nb_of {d : DS} (h : d.Ok) : (d.bytes.length : Int) / (d.size : Int) = (d.nb : Int) := by
  have h1 := h.len
  have h2 := h.s1
  rw [h1, Int.natCast_mul]
  exact Int.mul_ediv_cancel _ (by omega)
theorem len_of {d : DS} (h : d.Ok) : d.bytes.length ≤ 67108864 := by
  have h1 := h.len
  have := Nat.mul_le_mul h.n2 h.s2
  omega

set_option maxHeartbeats 400000 in
theorem blocks_any {pd : Nat} {p : Pl} {d : DS} {w : World} (h : DiskAt pd p d w) (ok : d.Ok) : Calls Try.prog 63 #[.pointer (some ⟨pd, 0, none⟩)] w fun e w' => e = .returned (.int .i64 d.nb) ∧ ∃ q, w' = w.drewN q := by
  obtain ⟨c0, c1, _, _, _⟩ := h.cells
  have Hn := Lib.hid (nb_of ok)
  have hl := len_of ok
  have h1 := ok.s1
  have h2 := ok.s2
  have h3 := ok.n2
  generalize d.bytes.length = bl at *
  generalize d.size = sz at *
  have q0 : ((sz : Int) == 0) = false := by simp; omega
  go_enter Try.func63, Try.ntmps63
  go_wp2
  go_quiet (fail)
  go_wp2
  go_ret
  refine ⟨ret_int ?_, _, rfl⟩
  have hw : wrap64 ((bl : Int) / (sz : Int)) = (d.nb : Int) := by
    rw [Hn.out]
    exact IntWalk.wrap64_in _ ⟨by omega, by omega⟩
  exact hw

set_option maxHeartbeats 400000 in
theorem size_any {pd : Nat} {p : Pl} {d : DS} {w : World} (h : DiskAt pd p d w) : Calls Try.prog 66 #[.pointer (some ⟨pd, 0, none⟩)] w fun e w' => e = .returned (.int .i64 d.size) ∧ w = w' := by
  obtain ⟨c0, _, _, _, _⟩ := h.cells
  generalize d.size = sz at *
  go_enter Try.func66, Try.ntmps66
  go_wp2
  go_ret
  exact ⟨rfl, rfl⟩

/-- Is there such a block? -/
def DS.hasB (d : DS) (n : Int) : Bool := decide (0 ≤ n ∧ n < d.nb)

set_option maxHeartbeats 400000 in
theorem has_any {pd : Nat} {p : Pl} {d : DS} {w : World} (h : DiskAt pd p d w) (ok : d.Ok) (n : Int) : Calls Try.prog 59 #[.pointer (some ⟨pd, 0, none⟩), .int .i64 n] w fun e w' => e = .returned (.bool (d.hasB n)) ∧ ∃ q, w' = w.drewN q := by
  have HB := Lib.hid (blocks_any h ok)
  by_cases h0 : n < 0
  · have HF := Lib.hid (show d.hasB n = false by simp [DS.hasB]; omega)
    have hd : decide (0 ≤ n) = false := by simp; omega
    go_enter Try.func59, Try.ntmps59
    go_wp2
    go_ret
    exact ⟨by rw [HF.out]; rfl, 0, rfl⟩
  · have hd : decide (0 ≤ n) = true := by simp; omega
    have HF := Lib.hid (show d.hasB n = decide (n < (d.nb : Int)) by unfold DS.hasB; rw [decide_eq_decide]; omega)
    generalize d.nb = nb at *
    go_enter Try.func59, Try.ntmps59
    go_wp2_with (go_at_call 63; refine HB.out.mono ?_; rintro e w' ⟨rfl, q, rfl⟩)
    go_ret
    exact ⟨by rw [HF.out]; rfl, q, rfl⟩

theorem blk_lim {d : DS} (ok : d.Ok) {n : Nat} (hn : n < d.nb) : (n + 1) * d.size ≤ d.bytes.length ∧ n * d.size + d.size = (n + 1) * d.size := by
  rw [ok.len]
  exact ⟨Nat.mul_le_mul_right _ hn, by rw [Nat.succ_mul]⟩

set_option maxHeartbeats 400000 in
theorem block_any {pd : Nat} {p : Pl} {d : DS} {w : World} (h : DiskAt pd p d w) (ok : d.Ok) (n : Nat) (hn : n < d.nb) : Calls Try.prog 60 #[.pointer (some ⟨pd, 0, none⟩), .int .i64 n] w fun e w' => e = .returned (.slice (some ⟨p.gb, n * d.size, none⟩) d.size (p.cap - n * d.size)) ∧ ∃ q, w' = w.drewN q := by
  obtain ⟨c0, c1, _, _, _⟩ := h.cells
  obtain ⟨hl1, hl2⟩ := blk_lim ok hn
  have hl := len_of ok
  have hc := h.cap
  have hcm := h.capm
  have h1 := ok.s1
  have hnn := ok.n2
  have qa : ((n : Int) * (d.size : Int)) = ((n * d.size : Nat) : Int) := by simp
  have qb : (((n : Int) + 1) * (d.size : Int)) = (((n + 1) * d.size : Nat) : Int) := by simp
  generalize n * d.size = lo at *
  generalize (n + 1) * d.size = hi at *
  generalize d.bytes.length = bl at *
  generalize d.size = sz at *
  have qn : IntKind.i64.wrap ((n : Int) + 1) = (n : Int) + 1 := IntWalk.i64_in _ (by omega)
  have q1 : IntKind.i64.wrap (lo : Int) = (lo : Int) := IntWalk.i64_in _ (by omega)
  have q2 : IntKind.i64.wrap (hi : Int) = (hi : Int) := IntWalk.i64_in _ (by omega)
  have q3 : (lo : Int) ≤ (hi : Int) := by omega
  have q4 : (hi : Int) ≤ (p.cap : Int) := by omega
  have q5 : lo ≤ hi := by omega
  have q6 : hi ≤ p.cap := by omega
  have q7 : ¬ p.cap = lo := by omega
  have q8 : hi - lo = sz := by omega
  go_enter Try.func60, Try.ntmps60
  go_wp2
  go_quiet (fail)
  go_wp2
  go_ret
  exact ⟨rfl, _, rfl⟩
end Go.Proofs.Ytcnhfbckaacalaa
