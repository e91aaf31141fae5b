/- append of zeros to bytes of a block of the call's own; the walk of the reference disk's Read. -/
import Derived.Test.YtclbhhgifjegiaaRefF
namespace Go.Proofs.Ytclbhhgifjegiaa
open Go.RowKit
set_option linter.unusedVariables false
attribute [local go_sem ↓] Go.wp_at_zero Go.wp_at_succ

theorem zeros_eq (k : Nat) : (Builtin.zeroCells (Value.int .u8 0).cells k).toList = (List.replicate k (0 : UInt8)).map bv := by
  apply List.ext_getElem
  · simp [Builtin.zeroCells, Value.cells]
  · intro j h1 h2
    simp [Builtin.zeroCells, Value.cells, bv, Nat.mod_one]

/-- A block of the marks fz, its cells known. -/
def BlkZ (w : World) (g : Nat) (t : TypeId) (cs : Array Value) (fz : Nat × Nat) : Prop := w.heap[g]? = some (.cells cs t fz)

theorem run_appz {P : Program} {t tn e : TypeId} (T : ElT P t e (.int .u8 0) 1 1) (htn : P.underlying tn = some (.int .i64)) (w : World) (ty : TypeId) (g n cap k : Nat) (cs : Array Value) (fz : Nat × Nat) (hB : BlkZ w g e cs fz) (hcs : cs.size = cap) (hfz : cap ≤ fz.1) (l : List UInt8) (hl : l.length = n) (hcl : ∀ j, (h : j < l.length) → cs[j]? = some (bv l[j])) (hnc : n ≤ cap) (hk : n + k ≤ 65536) :
    ∃ A' c' w', (Builtin.append_ #[t, tn] ty #[.slice (some ⟨g, 0, none⟩) n cap, .int .i64 (k : Int)]).run P w = .ok (.slice A' (n + k) c') w' ∧ Rd w' A' (l ++ List.replicate k 0) ∧ n + k ≤ c' ∧ Below g w w' := by
  obtain ⟨i, hi, hz, hsz, hby⟩ := info_parts T.info
  have hglt : g < w.heap.size := (Array.getElem?_eq_some_iff.1 hB).1
  have hcell : ∀ j, w.cell? ⟨g, j, none⟩ = cs[j]? := fun j => cell_of_row w g j cs e fz hB
  have hrd : Rd w (some ⟨g, 0, none⟩) l := .inr ⟨g, 0, rfl, fun j hj => by rw [hcell, Nat.zero_add]; exact hcl j hj⟩
  have hw : IntKind.i64.wrap (k : Int) = k := by rw [IntKind.wrap_i64]; omega
  have hneg : ¬ ((k : Int) < 0) := by omega
  have h48i : ¬ (281474976710656 < (k : Int) * (i.bytes : Int)) := by rw [hby]; omega
  by_cases hr : n + k ≤ cap
  · rcases Nat.eq_zero_or_pos k with rfl | h0
    · refine ⟨_, cap, w, ?_, by simpa using hrd, hr, Below.refl _ _⟩
      simp [Builtin.append_, run_underlying T.ht, run_underlying htn, sizeOf, typeInfo, hi, asInt, asIntOf, storeCells, hnc, show IntKind.i64.wrap 0 = 0 from rfl]
    · have hst := run_storeCells_cells (P := P) g n (Builtin.zeroCells (Value.int .u8 0).cells k).toList 0 w (fun j hj => by
          rw [zeros_eq] at hj
          simp at hj
          rw [hcell, Array.getElem?_eq_getElem (by omega)]
          rfl) (fun j hj => by
          rw [zeros_eq] at hj
          simp at hj
          unfold BlkZ at hB
          simp [World.frozen?, hB]
          omega) (by rw [zeros_eq]; exact bvs_one _)
      refine ⟨some ⟨g, 0, none⟩, cap, w.setCells g n ((List.replicate k (0 : UInt8)).map bv), ?_, ?_, hr, ?_⟩
      · have hns : ¬ (k * i.size = 0) := Nat.mul_ne_zero (by omega) (by omega)
        rw [zeros_eq] at hst
        have e1 : (Builtin.zeroCells (Value.int .u8 0).cells k).toList = (List.replicate k (0 : UInt8)).map bv := zeros_eq k
        simp only [Nat.add_zero] at hst
        simp [Builtin.append_, run_underlying T.ht, run_underlying htn, sizeOf, typeInfo, zeroValue, hi, hz, hsz, asInt, asIntOf, hw, hneg, h48i, hr, Addr.add_lit, e1, show ¬ k = 0 by omega]
        simp at hst
        rw [hst]
        rfl
      · refine .inr ⟨g, 0, rfl, fun j hj => ?_⟩
        rw [Nat.zero_add]
        by_cases hjl : j < l.length
        · rw [World.cell?_setCells_out _ _ _ _ _ (by intro _ _; left; show j < n; omega), hcell, List.getElem_append_left hjl]
          exact hcl j hjl
        · have hjk : j - n < ((List.replicate k (0 : UInt8)).map bv).length := by simp at hj ⊢; omega
          have := World.cell?_setCells_in g ((List.replicate k (0 : UInt8)).map bv) n w (fun i hi' => by
            simp at hi'
            rw [hcell, Array.getElem?_eq_getElem (by omega)]
            rfl) (j - n) hjk
          rw [show n + (j - n) = j by omega] at this
          rw [this, List.getElem_append_right (by omega)]
          simp
      · exact Lib.below_setCells_w (Nat.le_refl _) _ _ _
  · have h0 : 0 < k := by omega
    have hold := run_firstCells_some (P := P) w.drew i.size n ⟨g, 0, none⟩ n cap (l.map bv) (by simp [hl, hsz]) (fun j v hv => by
      rw [List.getElem?_map] at hv
      obtain ⟨c, hc, rfl⟩ := Option.map_eq_some_iff.1 hv
      obtain ⟨hj, rfl⟩ := List.getElem?_eq_some_iff.1 hc
      rw [Addr.add_lit]
      show w.cell? _ = _
      rw [hcell, Nat.zero_add]
      exact hcl j hj)
    have h := Lib.run_append_grow_zeros (P := P) w t tn ty e i (.int .u8 0) .i64 .i64 T.ht htn hi hz (some ⟨g, 0, none⟩) n cap (l.map bv) hold k h0 (by omega) (by omega) (by omega) (by rw [hby]; omega) (by rw [hby]; exact growslice_fits (by omega) (by omega))
    refine ⟨_, _, _, h, ?_, grownCap_ge _ _ _ _, ((Below.refl _ _).drew).alloc (by exact Nat.le_of_lt hglt) _⟩
    have hzl := zeros_eq k
    refine .inr ⟨w.heap.size, 0, rfl, fun j hj => ?_⟩
    have hnew := heap_alloc_new w.drew (.cells ((l.map bv).toArray ++ Builtin.zeroCells (Value.int .u8 0).cells k ++ Builtin.zeroCells (Value.int .u8 0).cells (grownCap w (n + k) cap e - (n + k))) e)
    have hc2 := cell_of_row _ w.heap.size (0 + j) _ e (0, 0) hnew
    rw [hc2, Nat.zero_add]
    have e2 : (l.map bv).toArray ++ Builtin.zeroCells (Value.int .u8 0).cells k = ((l ++ List.replicate k 0).map bv).toArray := by
      apply Array.toList_inj.1
      rw [Array.toList_append, hzl]
      simp
    rw [e2, Array.getElem?_append_left (by simpa using hj)]
    simp only [List.getElem?_toArray, List.getElem?_map, List.getElem?_eq_getElem hj, Option.map_some]

def RS.read (r : RS) (n : Int) : Nat × List UInt8 := if n < 0 ∨ (r.n : Int) ≤ n then (2, []) else if r.off = true then (20, []) else (0, padB r.size (r.b.getD n.toNat []))
def RReadEnds (w : World) (r : RS) (n : Int) (e : Ending) (w' : World) : Prop :=
  e = .returned (.tuple #[.string ⟨(r.read n).2.toArray⟩, .int .i64 (r.read n).1]) ∧ Below w.heap.size w w'

section
variable {pr : Nat} {q : RPl} {r : RS} {w w' : World} {n : Int}
set_option maxHeartbeats 600000 in
theorem rread_any (h : RefAt pr q r w) (ok : r.Ok) :
    Calls Try.prog 20 #[.pointer (some ⟨pr, 0, none⟩), .int .i64 n] w (RReadEnds w r n) := by
  obtain ⟨c0, c1, c2, c3, c4, c5⟩ := h.cells
  by_cases h1 : n < 0 ∨ (r.n : Int) ≤ n
  · have HW := Lib.hid (show r.read n = (2, []) by unfold RS.read; rw [if_pos h1])
    by_cases h0 : n < 0
    · have hd : decide (n < 0) = true := by simpa using h0
      go_enter Try.func20, Try.ntmps20
      go_wp2
      go_ret2
      exact ⟨by rw [HW.out]; rfl, Below.refl _ _⟩
    · have hd : decide (n < 0) = false := by simpa using h0
      have hd2 : decide ((r.n : Int) ≤ n) = true := by simp; omega
      go_enter Try.func20, Try.ntmps20
      go_wp2
      go_ret2
      exact ⟨by rw [HW.out]; rfl, Below.refl _ _⟩
  · have hd : decide (n < 0) = false := by simp; omega
    have hd2 : decide ((r.n : Int) ≤ n) = false := by simp; omega
    by_cases ho : r.off = true
    · have HW := Lib.hid (show r.read n = (20, []) by unfold RS.read; rw [if_neg h1, if_pos ho])
      rw [ho] at c5
      clear ho
      go_enter Try.func20, Try.ntmps20
      go_wp2
      go_ret2
      exact ⟨by rw [HW.out]; rfl, Below.refl _ _⟩
    · obtain ⟨N, rfl⟩ := Int.eq_ofNat_of_zero_le (show 0 ≤ n by omega)
      have hN : N < r.b.length := by rw [ok.len]; omega
      have hNn : N < r.n := by omega
      have hxl := ok.bs N hN
      have HW := Lib.hid (show r.read (N : Int) = (0, padB r.size r.b[N]) by
        unfold RS.read; rw [if_neg h1, if_neg ho, Int.toNat_natCast, List.getD_eq_getElem?_getD, List.getElem?_eq_getElem hN]; rfl)
      rw [show r.off = false by simpa using ho] at c5
      have hcl : w.cell? ⟨q.gb, N, none⟩ = some (.string ⟨r.b[N].toArray⟩) := by
        rw [h.row.cell]
        simp [hN, sv]
      have hs2 := ok.s2
      generalize hx : r.b[N] = x at *
      clear hx ho h1
      have hcv := run_bytes_of_string (P := Try.prog) w 9 33 5 ⟨x.toArray⟩ Try.underlying9 Try.underlying33 Try.underlying5
      have hG := grownCap_ge w (⟨x.toArray⟩ : ByteArray).size 0 5
      have hxs : (⟨x.toArray⟩ : ByteArray).size = x.length := by simp [ByteArray.size]
      rw [hxs] at hcv hG
      generalize grownCap w x.length 0 5 = G at *
      have HRow : Hid ((bytesRow ⟨x.toArray⟩ G).size = G ∧ ∀ j, (h : j < x.length) → (bytesRow ⟨x.toArray⟩ G)[j]? = some (bv x[j])) := by
        refine ⟨?_, fun j hj => ?_⟩
        · simp [bytesRow, hxs]; omega
        · unfold bytesRow
          rw [Array.getElem?_append_left (by simpa using hj)]
          simp [hj, bv]
      generalize bytesRow ⟨x.toArray⟩ G = BR at *
      have q1 : (0 : Int) ≤ (N : Int) := by omega
      clear hxs
      go_enter Try.func20, Try.ntmps20
      go_upto_region 6 with (fail)
      have hpl := h.obj.lt
      have HF : Hid (Below w.heap.size w (w.alloc (.cells BR 5 (BR.size, BR.size + 1))).drew ∧ BlkZ (w.alloc (.cells BR 5 (BR.size, BR.size + 1))).drew w.heap.size 5 BR (BR.size, BR.size + 1)) :=
        ⟨(below_alloc w _).drew, heap_alloc_new w _⟩
      refine wp_world (fun W => Below w.heap.size w W ∧ BlkZ W w.heap.size 5 BR (BR.size, BR.size + 1)) HF.out ?_
      clear HF hcv
      rintro w2 ⟨hb2, hB2⟩
      have d1 := (h.keep hb2).cells.2.1
      obtain ⟨A', c', w3, hrun, hrd3, hc3, hb3⟩ := run_appz (P := Try.prog) (tn := 3) bytesT Try.underlying3 w2 33 w.heap.size x.length G (r.size - x.length) BR (BR.size, BR.size + 1) hB2 HRow.out.1 (by rw [HRow.out.1]; exact Nat.le_refl _) x rfl HRow.out.2 hG (by omega)
      have e1 : ((r.size - x.length : Nat) : Int) = (r.size : Int) - (x.length : Int) := by omega
      have e2 : x.length + (r.size - x.length) = r.size := by omega
      rw [e1, e2] at hrun
      have hpad : x ++ List.replicate (r.size - x.length) 0 = padB r.size x := rfl
      rw [hpad] at hrd3
      have HRun := Lib.hid hrun
      have hst := run_str (P := Try.prog) Try.underlying33 Try.underlying5 Try.underlying9 w3 A' r.size c' (padB r.size x) (padB_len hxl) hrd3
      clear e1 e2 hrun hpad c0 c1 c2 c3 c4 c5 hcl
      go_wp2_with (at_builtin; refine Lib.wpList_append_run _ rfl (.tmp 29) (.tmp 36) _ _ rfl _ _ rfl rfl _ _ HRun.out ?_)
      go_ret2
      exact ⟨by rw [HW.out]; rfl, hb2.trans hb3⟩
end
end Go.Proofs.Ytclbhhgifjegiaa
