/- Write at every input; the walks of New, Read, Cut, Restore of layer 2. -/
import Derived.Test.YtcnhfbckaacalaaWrite
import Derived.Conc.SmallLaws
import Derived.BigRegion
namespace Go.Proofs.Ytcnhfbckaacalaa
open Go.RowKit
set_option linter.unusedVariables false

section
variable {pd : Nat} {p : Pl} {d : DS} {w : World} {A : Option Addr} {ls : List (List UInt8)} {l : List UInt8} {m c : Nat} {n : Int}

theorem write_any (h : DiskAt pd p d w) (ok : d.Ok) (hf : ls.flatten = l) (hm : ls.length = m) (hm2 : m ≤ 65536) (hn : l.length ≤ 140737488351232) (hr : RdL w A ls) :
    Calls Try.prog 33 #[.pointer (some ⟨pd, 0, none⟩), .int .i64 n, .slice A m c] w (WriteEnds w pd p d n l) := by
  cases hh : d.hasB n with
  | false => exact write_no h ok hf hm hm2 hn hr hh
  | true =>
    by_cases hl : d.size < l.length
    · exact write_long h ok hf hm hm2 hn hr hh hl
    · cases ho : d.off with
      | true => exact write_dead h ok hf hm hm2 hn hr hh hl ho
      | false =>
        by_cases hlf : d.left = 0
        · exact write_cut h ok hf hm hm2 hn hr hh hl ho hlf
        · exact write_ok h ok hf hm hm2 hn hr hh hl ho hlf

theorem spliceB_len2 (b : List UInt8) (off size : Nat) (x : List UInt8) (h : off + size ≤ b.length) (hx : x.length ≤ size) : (putBlock b off size x).length = b.length := putBlock_len b off size x h hx

/-- Acts keep a disk well formed. -/
theorem DS.write_ok_ (ok : d.Ok) (hlg : d.log.length + 1 ≤ 1000000) : (d.write n l).2.Ok := by
  unfold DS.write
  split
  · exact ok
  · rename_i hh
    split
    · exact ok
    · rename_i hl
      split
      · exact ok
      · split
        · exact ⟨ok.s1, ok.s2, ok.n1, ok.n2, ok.len, ok.l1, ok.l2, ok.lg⟩
        · have hn2 : 0 ≤ n ∧ n < d.nb := by simpa [DS.hasB] using hh
          have hlim := blk_lim ok (n := n.toNat) (by omega)
          have hl1 := ok.l1
          have hl2 := ok.l2
          refine ⟨ok.s1, ok.s2, ok.n1, ok.n2, ?_, ?_, ?_, ?_⟩
          · show (putBlock d.bytes (n.toNat * d.size) d.size l).length = _
            rw [putBlock_len _ _ _ _ (by omega) (by omega)]
            exact ok.len
          · show -1 ≤ (if 0 < d.left then d.left - 1 else d.left)
            split <;> omega
          · show (if 0 < d.left then d.left - 1 else d.left) ≤ _
            split <;> omega
          · show (d.log ++ [n]).length ≤ _
            simp; omega

/-- A block's bytes. -/
def DS.blockB (d : DS) (n : Nat) : List UInt8 := (d.bytes.drop (n * d.size)).take d.size

/-- Read, as a function. -/
def DS.read (d : DS) (n : Int) : Nat × List UInt8 := if d.hasB n = false then (2, []) else if d.off = true then (20, []) else (0, d.blockB n.toNat)

def ReadEnds (w : World) (d : DS) (n : Int) (e : Ending) (w' : World) : Prop :=
  ∃ v, e = .returned (.tuple #[v, .int .i64 (d.read n).1]) ∧ w'.ownsRow w.heap.size 5 1 v (d.read n).2.length ((d.read n).2.map bv) ∧ Below w.heap.size w w'

set_option maxHeartbeats 400000 in
theorem read_any (h : DiskAt pd p d w) (ok : d.Ok) :
    Calls Try.prog 62 #[.pointer (some ⟨pd, 0, none⟩), .int .i64 n] w (ReadEnds w d n) := by
  have hH := has_any h ok n
  cases hh : d.hasB n with
  | false =>
    rw [hh] at hH
    have HH := Lib.hid hH
    have HW := Lib.hid (show d.read n = (2, []) by unfold DS.read; rw [if_pos hh])
    clear hH hh
    go_enter Try.func62, Try.ntmps62
    go_wp2_with (go_at_call 59; refine HH.out.mono ?_; rintro e w2 ⟨rfl, q, rfl⟩)
    go_ret2
    refine ⟨.slice none 0 0, by rw [HW.out]; rfl, ?_, below_drewN (Below.refl _ _) q⟩
    rw [HW.out]
    exact World.ownsRow_nil _ _ _ _
  | true =>
    rw [hh] at hH
    have HH := Lib.hid hH
    cases ho : d.off with
    | true =>
      have HW := Lib.hid (show d.read n = (20, []) by unfold DS.read; rw [if_neg (by rw [hh]; simp), if_pos ho])
      have HO := Lib.hid ho
      clear hH hh ho
      go_enter Try.func62, Try.ntmps62
      go_wp2_with (first
        | (go_at_call 59; refine HH.out.mono ?_; rintro e w2 ⟨rfl, q, rfl⟩)
        | (go_at_call 39; refine (dead_any (h.keep (below_drewN (Below.refl _ _) q))).mono ?_; rintro e w3 ⟨rfl, rfl⟩; rw [HO.out]))
      go_ret2
      refine ⟨.slice none 0 0, by rw [HW.out]; rfl, ?_, below_drewN (Below.refl _ _) q⟩
      rw [HW.out]
      exact World.ownsRow_nil _ _ _ _
    | false =>
      have hn2 : 0 ≤ n ∧ n < d.nb := by simpa [DS.hasB] using hh
      obtain ⟨N, rfl⟩ := Int.eq_ofNat_of_zero_le hn2.1
      have hN : N < d.nb := by omega
      have HW := Lib.hid (show d.read (N : Int) = (0, d.blockB N) by unfold DS.read; rw [if_neg (by rw [hh]; simp), if_neg (by rw [ho]; simp)]; simp)
      have HO := Lib.hid ho
      obtain ⟨hl1, hl2⟩ := blk_lim ok hN
      have hlb : (d.blockB N).length = d.size := by unfold DS.blockB; simp; omega
      have HLB := Lib.hid hlb
      have hs2 := ok.s2
      have hrd : ∀ W, DiskAt pd p d W → Rd W (some ⟨p.gb, N * d.size, none⟩) (d.blockB N) := fun W hW => by
        refine .inr ⟨p.gb, N * d.size, rfl, fun j hj => ?_⟩
        rw [hW.row.cell]
        have hj2 : j < d.size := by rw [hlb] at hj; exact hj
        have hj3 : N * d.size + j < d.bytes.length := by omega
        rw [List.getElem?_toArray, List.getElem?_append_left (by simp; omega), List.getElem?_map, List.getElem?_eq_getElem hj3]
        simp [DS.blockB]
      have HRD := Lib.hid hrd
      clear hH hh ho hlb hrd
      go_enter Try.func62, Try.ntmps62
      go_wp2_with (first
        | (go_at_call 59; refine HH.out.mono ?_; rintro e w2 ⟨rfl, q, rfl⟩)
        | (go_at_call 39; refine (dead_any (h.keep (below_drewN (Below.refl _ _) q))).mono ?_; rintro e w3 ⟨rfl, rfl⟩; rw [HO.out])
        | (go_at_call 60; refine (block_any (h.keep (below_drewN (Below.refl _ _) q)) ok N hN).mono ?_; rintro e w4 ⟨rfl, q4, rfl⟩)
        | (go_at_call 67; refine (clone_any (some ⟨p.gb, N * d.size, none⟩) (d.blockB N) d.size (p.cap - N * d.size) _ HLB.out (by omega) (HRD.out _ (h.keep (below_drewN (Below.refl _ _) _)))).mono ?_; rintro e w5 ⟨v, rfl, hown, hb5⟩))
      go_ret2
      refine ⟨v, by rw [HW.out]; rfl, ?_, below_drewN (Below.refl _ _) _ |>.trans (hb5.mono (Nat.le_refl _))⟩
      rw [HW.out, HLB.out]
      exact hown
/-- Cut, as a function. -/
def DS.cut (d : DS) (a : Int) : DS := if d.off = true then d else { d with left := max a (-1) }

set_option maxHeartbeats 400000 in
/-- Cut. -/
theorem cut_any (h : DiskAt pd p d w) (a : Int) :
    Calls Try.prog 23 #[.pointer (some ⟨pd, 0, none⟩), .int .i64 a] w fun e w' => e = .returned (.tuple #[]) ∧ Acts w pd p (d.cut a) w' p := by
  by_cases ho : d.off = true
  · have HC := Lib.hid (show d.cut a = d by unfold DS.cut; rw [if_pos ho])
    have HO := Lib.hid ho
    clear ho
    go_enter Try.func23, Try.ntmps23
    go_wp2_with (go_at_call 39; refine (dead_any h).mono ?_; rintro e w3 ⟨rfl, rfl⟩; rw [HO.out])
    go_end0
    exact ⟨rfl, by rw [HC.out]; exact Acts.quiet h (Below.refl _ _)⟩
  · have HO := Lib.hid (show d.off = false by simpa using ho)
    obtain ⟨c0, c1, c2, c3, c4⟩ := h.cells
    have f3 := h.obj.frozen 3
    by_cases ha : a < -1
    · have HC := Lib.hid (show d.cut a = { d with left := -1 } by unfold DS.cut; rw [if_neg ho, show max a (-1) = -1 from by omega])
      clear ho
      go_enter Try.func23, Try.ntmps23
      go_wp2_with (go_at_call 39; refine (dead_any h).mono ?_; rintro e w3 ⟨rfl, rfl⟩; rw [HO.out])
      go_end0
      exact ⟨rfl, by rw [HC.out]; exact ⟨h.setLeft _, Fr.setCell _ _ (fun _ => .inl rfl) _, fun k hk => .inl hk⟩⟩
    · have HC := Lib.hid (show d.cut a = { d with left := a } by unfold DS.cut; rw [if_neg ho, show max a (-1) = a from by omega])
      clear ho
      go_enter Try.func23, Try.ntmps23
      go_wp2_with (go_at_call 39; refine (dead_any h).mono ?_; rintro e w3 ⟨rfl, rfl⟩; rw [HO.out])
      go_end0
      exact ⟨rfl, by rw [HC.out]; exact ⟨h.setLeft _, Fr.setCell _ _ (fun _ => .inl rfl) _, fun k hk => .inl hk⟩⟩

theorem mkChan (W : World) : (Instr.makeChan 69 (.int .i64 0)).run Try.prog W = .ok (.chan (some W.heap.size)) (W.alloc (.chan 0 #[] false 0 0 false)) := by
  have h : (Try.prog.info? 103).map (·.bytes) = some 0 := by kernel_rfl
  obtain ⟨i, hi, hb⟩ := Option.map_eq_some_iff.1 h
  have := Conc.run_makeChan (P := Try.prog) (w := W) Try.underlying69 hi .i64 0 (by omega) (by rw [hb]; omega)
  simpa using this

theorem DiskAt.setOff (h : DiskAt pd p d w) {ch : Nat} (hc : w.heap[ch]? = some (.chan 0 #[] false 0 0 false)) : DiskAt pd { p with ch := ch, s := 0, r := 0 } { d with off := false } (w.setCell ⟨pd, 4, none⟩ (.chan (some ch))).drew := by
  have hne : ch ≠ pd := fun e => by
    have h2 := h.obj
    unfold Blk at h2
    rw [e, h2] at hc
    injection hc with hc
    cases hc
  refine ⟨h.obj.set_ 4 _, h.row.far h.ne_gb _, h.cap, h.capm, ?_, ?_⟩
  · refine World.ownsRow.kept (w := w) h.log (row := some pd) (w' := (w.setCell ⟨pd, 4, none⟩ (.chan (some ch))).drew) ?_ ?_
    · have := grown_setCell (grown_refl w (some pd)) (p := ⟨pd, 4, none⟩) (.inl rfl) (.chan (some ch))
      exact ⟨this.os, this.tape, this.output, this.size, this.block⟩
    · cases hk : p.lv.ownBlock with
      | none => exact .inl rfl
      | some k => exact .inr (by intro e; injection e with e; exact (h.ne_lv k hk).1 e)
  · show (w.setCell ⟨pd, 4, none⟩ (.chan (some ch))).heap[ch]? = _
    rw [Below.heap_setCell _ _ _ _ hne]
    exact hc
theorem restore_F {x : Nat} (hlt : pd < x) : ∀ k, Pl.F pd { p with ch := x, s := 0, r := 0 } k → p.F pd k ∨ x ≤ k := by
  rintro k (h1 | h1 | h1 | h1)
  · exact .inl (.inl h1)
  · exact .inl (.inr (.inl h1))
  · exact .inl (.inr (.inr (.inl h1)))
  · exact .inr (by rw [show k = x from h1]; omega)

set_option maxHeartbeats 400000 in
/-- Restore. -/
theorem restore_any (h : DiskAt pd p d w) :
    Calls Try.prog 24 #[.pointer (some ⟨pd, 0, none⟩)] w fun e w' => e = .returned (.tuple #[]) ∧ ∃ p', Acts w pd p { d with left := -1, off := false } w' p' := by
  obtain ⟨c0, c1, c2, c3, c4⟩ := h.cells
  have f3 := h.obj.frozen 3
  have f4 := h.obj.frozen 4
  have hmc := mkChan
  have hlt := h.obj.lt
  have A2 : Acts w pd p { d with left := -1, off := false } (((w.setCell ⟨pd, 3, none⟩ (.int .i64 (-1))).alloc (.chan 0 #[] false 0 0 false)).setCell ⟨pd, 4, none⟩ (.chan (some w.heap.size))).drew { p with ch := w.heap.size, s := 0, r := 0 } := by
    have d1 := (h.setLeft (-1)).keep (below_alloc (w.setCell ⟨pd, 3, none⟩ (.int .i64 (-1))) (.chan 0 #[] false 0 0 false))
    have hch : ((w.setCell ⟨pd, 3, none⟩ (.int .i64 (-1))).alloc (.chan 0 #[] false 0 0 false)).heap[w.heap.size]? = some (.chan 0 #[] false 0 0 false) := by
      have := heap_alloc_new (w.setCell ⟨pd, 3, none⟩ (.int .i64 (-1))) (.chan 0 #[] false 0 0 false)
      rwa [size_setCell] at this
    refine ⟨d1.setOff hch, ?_, restore_F hlt⟩
    exact (((Fr.setCell (p.F pd) w (p := ⟨pd, 3, none⟩) (fun _ => .inl rfl) _).same (Fr.alloc (p.F pd) _ _)).same (Fr.setCell (p.F pd) _ (p := ⟨pd, 4, none⟩) (fun _ => .inl rfl) _)).drew
  rw [World.setCell_alloc_past _ _ _ _ (by rw [size_setCell]; exact hlt)] at A2
  have HA2 := Lib.hid A2
  clear A2
  go_enter Try.func24, Try.ntmps24
  go_wp2
  go_region
  go_end0
  exact ⟨rfl, _, HA2.out⟩
end

/-- A new disk. -/
def DS.fresh (nb size : Nat) : DS := ⟨size, nb, List.replicate (nb * size) 0, [], -1, false⟩
theorem DS.fresh_ok {nb size : Nat} (h1 : 1 ≤ nb) (h2 : nb ≤ 16384) (h3 : 64 ≤ size) (h4 : size ≤ 4096) : (DS.fresh nb size).Ok :=
  ⟨h3, h4, h1, h2, by simp [DS.fresh], by simp [DS.fresh], by simp [DS.fresh], by simp [DS.fresh]⟩

theorem blk_drew {w : World} {g t : Nat} {cs : Array Value} (h : Blk w g t cs) : Blk w.drew g t cs := h
theorem new_at {w1 : World} {nb size tot gb ch : Nat} (hb : Blk w1 gb 5 (zerosB tot)) (hc : w1.heap[ch]? = some (.chan 0 #[] false 0 0 false)) (hm : tot ≤ 9223372036854775807) :
    DiskAt w1.heap.size ⟨gb, tot, [], .slice none 0 0, ch, 0, 0⟩ ⟨size, nb, List.replicate tot 0, [], -1, false⟩
      (w1.alloc (.cells #[.int .i64 (size : Int), .slice (some ⟨gb, 0, none⟩) tot tot, .slice none 0 0, .int .i64 (-1), .chan (some ch)] 71)).drew := by
  refine ⟨?_, ?_, by simp, hm, World.ownsRow_nil _ _ _ _, ?_⟩
  · have := Blk.new w1 71 #[.int .i64 (size : Int), .slice (some ⟨gb, 0, none⟩) tot tot, .slice none 0 0, .int .i64 (-1), .chan (some ch)]
    refine blk_drew ?_
    simpa using this
  · have := hb.alloc (.cells #[.int .i64 (size : Int), .slice (some ⟨gb, 0, none⟩) tot tot, .slice none 0 0, .int .i64 (-1), .chan (some ch)] 71)
    unfold zerosB at this
    refine blk_drew ?_
    simpa using this
  · exact (Below.heap_alloc _ _ _ (Array.getElem?_eq_some_iff.1 hc).1).trans hc

set_option maxHeartbeats 400000 in
/-- New, where the numbers may be. -/
theorem new_ok (nb size : Nat) (w : World) (h1 : 1 ≤ nb) (h2 : nb ≤ 16384) (h3 : 64 ≤ size) (h4 : size ≤ 4096) :
    Calls Try.prog 10 #[.int .i64 nb, .int .i64 size] w fun e w' => ∃ pd p, e = .returned (.tuple #[.pointer (some ⟨pd, 0, none⟩), .int .i64 0]) ∧ DiskAt pd p (DS.fresh nb size) w' ∧ Below w.heap.size w w' ∧ ∀ k, p.F pd k → w.heap.size ≤ k := by
  have d1 : decide ((nb : Int) < 1) = false := by simp; omega
  have d2 : decide (16384 < (nb : Int)) = false := by simp; omega
  have d3 : decide ((size : Int) < 64) = false := by simp; omega
  have d4 : decide (4096 < (size : Int)) = false := by simp; omega
  have hmul : nb * size ≤ 67108864 := by have := Nat.mul_le_mul h2 h4; omega
  have qm : ((nb : Int) * (size : Int)) = ((nb * size : Nat) : Int) := by simp
  have HFR : Hid (DS.fresh nb size = ⟨size, nb, List.replicate (nb * size) 0, [], -1, false⟩) := rfl
  have hmk := fun W => run_make_bytes (P := Try.prog) bytesT (nb * size) (by omega) W
  generalize nb * size = tot at *
  have qw : IntKind.i64.wrap (tot : Int) = (tot : Int) := IntWalk.i64_in _ (by omega)
  have hmc := mkChan
  go_enter Try.func10, Try.ntmps10
  have A1 := new_at (w1 := (w.alloc (.cells (zerosB tot) 5)).alloc (.chan 0 #[] false 0 0 false)) (nb := nb) (size := size) (tot := tot) (gb := w.heap.size) (ch := w.heap.size + 1) ((Blk.new w _ _).alloc _) (by have := heap_alloc_new (w.alloc (.cells (zerosB tot) 5)) (.chan 0 #[] false 0 0 false); rwa [World.size_alloc] at this) (by omega)
  have A2 := new_at (w1 := (w.alloc (.chan 0 #[] false 0 0 false)).alloc (.cells (zerosB tot) 5)) (nb := nb) (size := size) (tot := tot) (gb := w.heap.size + 1) (ch := w.heap.size) (by have := Blk.new (w.alloc (.chan 0 #[] false 0 0 false)) 5 (zerosB tot); rwa [World.size_alloc] at this) ((Below.heap_alloc _ _ _ (by simp)).trans (heap_alloc_new w _)) (by omega)
  simp only [World.size_alloc] at A1 A2
  have HA1 := Lib.hid A1
  have HA2 := Lib.hid A2
  clear A1 A2
  go_wp2
  go_region
  · go_wp2
    go_ret2
    refine ⟨w.heap.size + 1 + 1, _, rfl, by rw [HFR.out]; exact HA1.out, ((((Below.refl _ _).alloc (Nat.le_refl _) _).alloc (by simp) _).alloc (by simp; omega) _).drew, ?_⟩
    rintro k (h | h | h | h)
    · omega
    · exact Nat.le_of_eq h.symm
    · simp [Value.ownBlock] at h
    · have h' : k = w.heap.size + 1 := h
      omega
  · go_wp2
    go_ret2
    refine ⟨w.heap.size + 1 + 1, _, rfl, by rw [HFR.out]; exact HA2.out, ((((Below.refl _ _).alloc (Nat.le_refl _) _).alloc (by simp) _).alloc (by simp; omega) _).drew, ?_⟩
    rintro k (h | h | h | h)
    · omega
    · have h' : k = w.heap.size + 1 := h
      omega
    · simp [Value.ownBlock] at h
    · exact Nat.le_of_eq h.symm
end Go.Proofs.Ytcnhfbckaacalaa
