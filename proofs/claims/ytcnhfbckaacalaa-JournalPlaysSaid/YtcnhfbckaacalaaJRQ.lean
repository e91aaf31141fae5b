/- The walk of Open of the document's journal, where it does not open. The document's journal while Open reads its records: its blocks, the reader's, the row of records. The walk of Open of the document's journal, where it opens. -/
import Derived.Test.YtcnhfbckaacalaaJRX
namespace Go.Proofs.Ytcnhfbckaacalaa
section
open Go.RowKit
set_option linter.unusedVariables false

section
variable {w w' : World} {pr : Nat} {q : RPl} {R : RS} {D : DS}
def ROpenNo (w : World) (e : Nat) (r : Ending) (w' : World) : Prop := r = .returned (.tuple #[.pointer none, .slice none 0 0, .int .i64 (e : Int)]) ∧ Below w.heap.size w w'
theorem ropen_ways {nb : Nat} {fr ln ep : Int} (h : fitsB nb fr ln = false ∨ ep < 0 ∨ 16777215 < ep) : fr < 0 ∨ (¬ fr < 0 ∧ ln < 1) ∨ (¬ fr < 0 ∧ ¬ ln < 1 ∧ 16384 < ln) ∨ (¬ fr < 0 ∧ ¬ ln < 1 ∧ ¬ 16384 < ln ∧ (nb : Int) ≤ fr) ∨ (¬ fr < 0 ∧ ¬ ln < 1 ∧ ¬ 16384 < ln ∧ ¬ (nb : Int) ≤ fr ∧ (nb : Int) - fr < ln) ∨ (¬ fr < 0 ∧ ¬ ln < 1 ∧ ¬ 16384 < ln ∧ ¬ (nb : Int) ≤ fr ∧ ¬ (nb : Int) - fr < ln ∧ ep < 0) ∨ (¬ fr < 0 ∧ ¬ ln < 1 ∧ ¬ 16384 < ln ∧ ¬ (nb : Int) ≤ fr ∧ ¬ (nb : Int) - fr < ln ∧ ¬ ep < 0 ∧ 16777215 < ep) := by
  unfold fitsB at h
  rw [decide_eq_false_iff_not] at h
  omega
set_option maxRecDepth 100000 in
set_option maxHeartbeats 4000000 in
theorem ropen_arg (h : RefAt pr q R w) (hS : Sim D R) (fr ln ep : Int) (hno : fitsB D.nb fr ln = false ∨ ep < 0 ∨ 16777215 < ep) :
    Calls Try.prog 29 #[.pointer (some ⟨pr, 0, none⟩), .agg #[.int .i64 fr, .int .i64 ln], .int .i64 ep] w (ROpenNo w 2) := by
  have hB : Blk (w.alloc (.cells #[.int .i64 fr, .int .i64 ln] 34)) w.heap.size 34 #[.int .i64 fr, .int .i64 ln] := Blk.new _ _ _
  have e0 : (w.alloc (.cells #[.int .i64 fr, .int .i64 ln] 34)).cell? ⟨w.heap.size, 0, none⟩ = some (.int .i64 fr) := hB.cell 0
  have e1 : (w.alloc (.cells #[.int .i64 fr, .int .i64 ln] 34)).cell? ⟨w.heap.size, 1, none⟩ = some (.int .i64 ln) := hB.cell 1
  have r0 : (w.alloc (.cells #[.int .i64 fr, .int .i64 ln] 34)).cell? ⟨pr, 0, none⟩ = some (.int .i64 (D.nb : Int)) := by
    rw [← hS.nb]; exact (h.keep (below_alloc _ _)).obj.cell 0
  have HBL := Lib.hid (below_alloc w (.cells #[.int .i64 fr, .int .i64 ln] 34))
  have hnb := hS.dok.n2
  obtain ⟨nb, hnbe⟩ : ∃ nb, D.nb = nb := ⟨_, rfl⟩
  rw [hnbe] at hno r0 hnb
  have hways := ropen_ways hno
  clear h hS hB hno hnbe
  rcases hways with k1 | ⟨k1, k2⟩ | ⟨k1, k2, k3⟩ | ⟨k1, k2, k3, k4⟩ | ⟨k1, k2, k3, k4, k5⟩ | ⟨k1, k2, k3, k4, k5, k6⟩ | ⟨k1, k2, k3, k4, k5, k6, k7⟩
  case' inl =>
    have d1 : decide (fr < 0) = true := by simpa using k1
  case' inr.inl =>
    have d1 : decide (fr < 0) = false := by simpa using k1
    have d2 : decide (ln < 1) = true := by simpa using k2
  case' inr.inr.inl =>
    have d1 : decide (fr < 0) = false := by simpa using k1
    have d2 : decide (ln < 1) = false := by simpa using k2
    have d3 : decide (16384 < ln) = true := by simpa using k3
  case' inr.inr.inr.inl =>
    have d1 : decide (fr < 0) = false := by simpa using k1
    have d2 : decide (ln < 1) = false := by simpa using k2
    have d3 : decide (16384 < ln) = false := by simpa using k3
    have d4 : decide ((nb : Int) ≤ fr) = true := by simpa using k4
  case' inr.inr.inr.inr.inl =>
    have d1 : decide (fr < 0) = false := by simpa using k1
    have d2 : decide (ln < 1) = false := by simpa using k2
    have d3 : decide (16384 < ln) = false := by simpa using k3
    have d4 : decide ((nb : Int) ≤ fr) = false := by simpa using k4
    have q1 : IntKind.i64.wrap ((nb : Int) - fr) = (nb : Int) - fr := IntWalk.i64_in _ (by omega)
    have d5 : decide ((nb : Int) - fr < ln) = true := by simpa using k5
  case' inr.inr.inr.inr.inr.inl =>
    have d1 : decide (fr < 0) = false := by simpa using k1
    have d2 : decide (ln < 1) = false := by simpa using k2
    have d3 : decide (16384 < ln) = false := by simpa using k3
    have d4 : decide ((nb : Int) ≤ fr) = false := by simpa using k4
    have q1 : IntKind.i64.wrap ((nb : Int) - fr) = (nb : Int) - fr := IntWalk.i64_in _ (by omega)
    have d5 : decide ((nb : Int) - fr < ln) = false := by simpa using k5
    have d6 : decide (ep < 0) = true := by simpa using k6
  case' inr.inr.inr.inr.inr.inr =>
    have d1 : decide (fr < 0) = false := by simpa using k1
    have d2 : decide (ln < 1) = false := by simpa using k2
    have d3 : decide (16384 < ln) = false := by simpa using k3
    have d4 : decide ((nb : Int) ≤ fr) = false := by simpa using k4
    have q1 : IntKind.i64.wrap ((nb : Int) - fr) = (nb : Int) - fr := IntWalk.i64_in _ (by omega)
    have d5 : decide ((nb : Int) - fr < ln) = false := by simpa using k5
    have d6 : decide (ep < 0) = false := by simpa using k6
    have d7 : decide (16777215 < ep) = true := by simpa using k7
  all_goals
    go_enter Try.func29, Try.ntmps29
    go_upto_region 3 with (fail)
    go_quiet (fail)
    go_wp2
    refine bodyPost_ret (v := .tuple #[.pointer none, .slice none 0 0, .int .i64 2]) (by simp [results, Try.results29, go_sem]) rfl ⟨rfl, below_drewN HBL.out _⟩
end
end
section
open Go.RowKit
set_option linter.unusedVariables false
structure ROX (w0 : World) (Bs pk pr : Nat) (q : RPl) (J : JV) (R : RS) (pt : Nat) (B : Option Addr) (cB : Nat) (t : TS) (v : Value) (out : List (List UInt8)) (V : World) : Prop where
  rz : RZ pk pr q J R V
  tape : ReadAt pt B cB t V
  own : V.ownsRow Bs 9 1 v out.length (out.map tv)
  bel : Below w0.heap.size w0 V
  sz : Bs ≤ V.heap.size
  lk : w0.heap.size ≤ pk
  kt : pk < pt
  tb : pt < Bs
  bb : ∀ b off, B = some ⟨b, off, none⟩ → pk < b ∧ b < pt
  ql : ∀ k, q.F pr k → k < w0.heap.size
section
variable {w0 V V' : World} {Bs pk pr : Nat} {q : RPl} {J J' : JV} {R : RS} {pt : Nat} {B : Option Addr} {cB : Nat} {t t' : TS} {v v' : Value} {out : List (List UInt8)}
theorem rfar {base e n : Nat} {v : Value} {xs : List Value} {F : Nat → Prop} (h : V.ownsRow base e 1 v n xs) (hf : Fr F V V') (hF : ∀ k, F k → k < base) : V'.ownsRow base e 1 v n xs := by
  refine ⟨h.1, ?_⟩
  rcases h.2 with hn | ⟨g, cap', cur, hv, hb, hh, rest⟩
  · exact .inl hn
  · have hg := (World.ownsRow.lt h g (by rw [hv]; rfl)).2
    exact .inr ⟨g, cap', cur, hv, hb, (hf.block g hg (fun e => by have := hF g e; omega)).trans hh, rest⟩
theorem rlower {base b2 e n : Nat} {v : Value} {xs : List Value} (h : V.ownsRow base e 1 v n xs) (hb : b2 ≤ base) : V.ownsRow b2 e 1 v n xs := by
  refine ⟨h.1, ?_⟩
  rcases h.2 with hn | ⟨g, cap', cur, hv, hb', rest⟩
  · exact .inl hn
  · exact .inr ⟨g, cap', cur, hv, Nat.le_trans hb hb', rest⟩
theorem ROX.keep (h : ROX w0 Bs pk pr q J R pt B cB t v out V) (hb : Below V.heap.size V V') : ROX w0 Bs pk pr q J R pt B cB t v out V' :=
  ⟨h.rz.keep hb, h.tape.keep hb, rfar h.own (Fr.of_below hb (fun _ => False)) (fun _ e => e.elim), below_step h.bel hb, Nat.le_trans h.sz hb.size, h.lk, h.kt, h.tb, h.bb, h.ql⟩
theorem ROX.set_ (h : ROX w0 Bs pk pr q J R pt B cB t v out V) (i : Nat) (u : Value) (hc : (rcellsJ pr J).setIfInBounds i u = rcellsJ pr J') : ROX w0 Bs pk pr q J' R pt B cB t v out (V.setCell ⟨pk, i, none⟩ u) := by
  have hf := Fr.setCell (fun k => k = pk) V (p := ⟨pk, i, none⟩) (fun _ => rfl) u
  have h1 := h.kt
  have h2 := h.tb
  have h3 := h.lk
  exact ⟨h.rz.set_ i u hc, h.tape.far hf (by omega) (fun b off e k => by have := h.bb b off e; omega), rfar h.own hf (fun k e => by omega), h.bel.trans (hf.below h.bel.size (fun k e => by omega)), Nat.le_trans h.sz hf.size, h.lk, h.kt, h.tb, h.bb, h.ql⟩
theorem ROX.read (h : ROX w0 Bs pk pr q J R pt B cB t v out V) (a : RAct V pt B cB t' V') : ROX w0 Bs pk pr q J R pt B cB t' v out V' := by
  have h1 := h.kt
  have h2 := h.tb
  have h3 := h.lk
  refine ⟨h.rz.far a.fr (fun k hk e => ?_), a.tape, rfar h.own a.fr (fun k e => by omega), h.bel.trans (a.fr.below h.bel.size (fun k e => by omega)), Nat.le_trans h.sz a.fr.size, h.lk, h.kt, h.tb, h.bb, h.ql⟩
  rcases hk with hk | hk
  · have := h.ql k hk; omega
  · omega
theorem ROX.app {x : List UInt8} (h : ROX w0 Bs pk pr q J R pt B cB t v out V) (hg : V.grownBy V' v.ownBlock) (ho : V'.ownsRow Bs 9 1 v' (out.length + 1) (out.map tv ++ [tv x])) : ROX w0 Bs pk pr q J R pt B cB t v' (out ++ [x]) V' := by
  have hf : Fr (fun k => v.ownBlock = some k) V V' := Fr.of_grown hg (fun k e _ => e)
  have hlo : ∀ k, v.ownBlock = some k → Bs ≤ k := fun k e => (World.ownsRow.lt h.own k e).1
  have h1 := h.kt
  have h2 := h.tb
  have h3 := h.lk
  refine ⟨h.rz.far hf (fun k hk e => ?_), h.tape.far hf (fun e => by have := hlo _ e; omega) (fun b off e e2 => by have := hlo _ e2; have := h.bb b off e; omega), by rw [List.length_append, List.map_append]; exact ho, h.bel.trans (hf.below h.bel.size (fun k e => by have := hlo k e; omega)), Nat.le_trans h.sz hf.size, h.lk, h.kt, h.tb, h.bb, h.ql⟩
  have := hlo k e
  rcases hk with hk | hk
  · have := h.ql k hk; omega
  · omega
theorem str_bytes (t : TS) (m : Int) : (t.str m).2.bytes = t.bytes := by
  unfold TS.str
  split
  · exact number_stops_le false
  · split
    · simp [TS.stops, number_stops_le]
    · split <;> simp [TS.stops, number_stops_le]
def rgap9 (pt n : Nat) (w : World) : Nat := match w.cell? ⟨pt, 1, none⟩, w.cell? ⟨pt, 2, none⟩ with
  | .some (.int _ z), .some (.int _ e) => if e = 0 then n - z.toNat + 1 else 0
  | _, _ => 0
theorem rgap9_eq (h : ReadAt pt B cB t V) (n : Nat) : rgap9 pt n V = if t.fault = 0 then n - t.pos + 1 else 0 := by
  obtain ⟨_, h1, h2, _⟩ := h.cells
  unfold rgap9
  rw [h1, h2]
  simp only [Int.toNat_natCast]
  by_cases hf : t.fault = 0
  · rw [if_pos hf, if_pos (by omega)]
  · rw [if_neg hf, if_neg (by omega)]
end
end
section
open Go.RowKit
set_option linter.unusedVariables false

/-- What Get says of a block, in one form. -/
def gk (l : List UInt8) : Nat × Nat × List UInt8 × Nat := match getP l with
  | none => (0, 0, [], 30)
  | some (k, n, ld) => (k, n, ld, 0)
theorem gk_none {l : List UInt8} (h : getP l = none) : gk l = (0, 0, [], 30) := by unfold gk; rw [h]
theorem gk_some {l : List UInt8} {k n : Nat} {ld : List UInt8} (h : getP l = some (k, n, ld)) : gk l = (k, n, ld, 0) := by unfold gk; rw [h]
theorem getP_bounds {l : List UInt8} {k n : Nat} {ld : List UInt8} (h : getP l = some (k, n, ld)) : k < 256 ∧ n < 18446744073709551616 ∧ ld.length ≤ l.length := by
  unfold getP at h
  split at h
  · cases h
  · split at h
    · cases h
    · split at h
      · injection h with h
        injection h with e1 h
        injection h with e2 e3
        refine ⟨by rw [← e1]; exact UInt8.toNat_lt _, ?_, ?_⟩
        · rw [← e2]; exact toldN_lt _
        · rw [← e3, List.length_take, List.length_drop]; omega
      · cases h
theorem gk_get {w : World} {l : List UInt8} (hl : l.length ≤ 4096) {kd num e : Nat} {ld : List UInt8} (hg : gk l = (kd, num, ld, e)) :
    Calls Try.prog 52 #[.string ⟨l.toArray⟩] w fun r w' => ∃ A c, r = .returned (.tuple #[.agg #[.int .u8 (kd : Int), .int .u64 (num : Int), .slice A ld.length c], .int .i64 (e : Int)]) ∧ Rd w' A ld ∧ Below w.heap.size w w' := by
  refine (rget_any l w (by omega)).mono ?_
  rintro r w' ⟨hb, h9⟩
  rcases h9 with ⟨h1, he⟩ | ⟨k, n, load, A, c, h1, he, hr⟩
  · rw [gk_none h1] at hg
    obtain ⟨rfl, rfl, rfl, rfl⟩ : 0 = kd ∧ 0 = num ∧ [] = ld ∧ 30 = e := by simpa using hg
    exact ⟨none, 0, he, .inl rfl, hb⟩
  · rw [gk_some h1] at hg
    obtain ⟨rfl, rfl, rfl, rfl⟩ : k = kd ∧ n = num ∧ load = ld ∧ 0 = e := by simpa using hg
    exact ⟨A, c, he, hr, hb⟩
/-- A round of the reading, by what Get says. -/
theorem gk_ways (D : DS) (fr ep i life : Nat) {kd num e : Nat} {ld : List UInt8} (hg : gk (D.blockB (fr + i)) = (kd, num, ld, e)) :
    ((e ≠ 0 ∨ (e = 0 ∧ kd ≠ 74) ∨ (e = 0 ∧ kd = 74 ∧ num ≠ jnum ep (lifeOf num) i) ∨ (e = 0 ∧ kd = 74 ∧ num = jnum ep (lifeOf num) i ∧ lifeOf num < life)) ∧ jst D fr ep i life = none) ∨
    (e = 0 ∧ kd = 74 ∧ num = jnum ep (lifeOf num) i ∧ ¬ lifeOf num < life ∧ jst D fr ep i life = some (decide (ld.length < D.size - 15), lifeOf num, ld)) := by
  unfold jst
  cases h : getP (D.blockB (fr + i)) with
  | none =>
    rw [gk_none h] at hg
    obtain ⟨rfl, rfl, rfl, rfl⟩ : 0 = kd ∧ 0 = num ∧ [] = ld ∧ 30 = e := by simpa using hg
    exact .inl ⟨.inl (by omega), jstep_none⟩
  | some x =>
    obtain ⟨k, n, l⟩ := x
    rw [gk_some h] at hg
    obtain ⟨rfl, rfl, rfl, rfl⟩ : k = kd ∧ n = num ∧ l = ld ∧ 0 = e := by simpa using hg
    by_cases hb : k ≠ 74 ∨ n ≠ jnum ep (lifeOf n) i ∨ lifeOf n < life
    · left
      refine ⟨?_, jstep_bad hb⟩
      by_cases a : k = 74
      · by_cases b : n = jnum ep (lifeOf n) i
        · exact .inr (.inr (.inr ⟨rfl, a, b, by rcases hb with h9 | h9 | h9; exact absurd a h9; exact absurd b h9; exact h9⟩))
        · exact .inr (.inr (.inl ⟨rfl, a, b⟩))
      · exact .inr (.inl ⟨rfl, a⟩)
    · right
      refine ⟨rfl, ?_, ?_, ?_, jstep_good hb⟩
      · by_cases a : k = 74
        · exact a
        · exact absurd (.inl a) hb
      · by_cases a : n = jnum ep (lifeOf n) i
        · exact a
        · exact absurd (.inr (.inl a)) hb
      · exact fun a => hb (.inr (.inr a))
section
variable {w w' : World} {pr : Nat} {q : RPl} {R : RS} {D : DS}
def ROpenYes (w : World) (pr : Nat) (q : RPl) (R : RS) (fr ln ep lf : Nat) (st : List UInt8) (r : Ending) (w' : World) : Prop :=
  Below w.heap.size w w' ∧ ((1048575 < lf + 1 ∧ r = .returned (.tuple #[.pointer none, .slice none 0 0, .int .i64 6])) ∨
    (¬ 1048575 < lf + 1 ∧ ∃ pk v7, r = .returned (.tuple #[.pointer (some ⟨pk, 0, none⟩), v7, .int .i64 0]) ∧ w.heap.size ≤ pk ∧ RZ pk pr q ⟨fr, ln, ep, lf + 1, st.take (jopenRecs st).2, (jopenRecs st).2, (jopenRecs st).1.length, false⟩ R w' ∧ w'.ownsRow w.heap.size 9 1 v7 (jopenRecs st).1.length ((jopenRecs st).1.map tv)))
set_option maxRecDepth 100000 in
set_option maxHeartbeats 8000000 in
theorem ropen_main (h : RefAt pr q R w) (hS : Sim D R) (fr ln ep : Nat) (hfl : fr + ln ≤ D.nb) (h1 : 1 ≤ ln) (h2 : ln ≤ 16384) (hep : ep ≤ 16777215) (hoff : D.off = false) (st : List UInt8) (lf : Nat) (hR : jread D fr ep ln 0 0 [] = (st, lf)) :
    Calls Try.prog 29 #[.pointer (some ⟨pr, 0, none⟩), .agg #[.int .i64 (fr : Int), .int .i64 (ln : Int)], .int .i64 (ep : Int)] w (ROpenYes w pr q R fr ln ep lf st) := by
  have hB : Blk (w.alloc (.cells #[.int .i64 (fr : Int), .int .i64 (ln : Int)] 34)) w.heap.size 34 #[.int .i64 (fr : Int), .int .i64 (ln : Int)] := Blk.new _ _ _
  have e0 : (w.alloc (.cells #[.int .i64 (fr : Int), .int .i64 (ln : Int)] 34)).cell? ⟨w.heap.size, 0, none⟩ = some (.int .i64 (fr : Int)) := hB.cell 0
  have e1 : (w.alloc (.cells #[.int .i64 (fr : Int), .int .i64 (ln : Int)] 34)).cell? ⟨w.heap.size, 1, none⟩ = some (.int .i64 (ln : Int)) := hB.cell 1
  have r0 : (w.alloc (.cells #[.int .i64 (fr : Int), .int .i64 (ln : Int)] 34)).cell? ⟨pr, 0, none⟩ = some (.int .i64 (D.nb : Int)) := by
    rw [← hS.nb]; exact (h.keep (below_alloc _ _)).obj.cell 0
  have HBL := Lib.hid (below_alloc w (.cells #[.int .i64 (fr : Int), .int .i64 (ln : Int)] 34))
  have hnb := hS.dok.n2
  have hs1 := hS.dok.s1
  have hs2 := hS.dok.s2
  have d1 : decide ((fr : Int) < 0) = false := by simp
  have d2 : decide ((ln : Int) < 1) = false := by simp; omega
  have d3 : decide ((16384 : Int) < (ln : Int)) = false := by simp; omega
  have d4 : decide (D.nb ≤ fr) = false := by simp; omega
  have q1 : IntKind.i64.wrap ((D.nb : Int) - (fr : Int)) = (D.nb : Int) - (fr : Int) := IntWalk.i64_in _ (by omega)
  have d5 : decide ((D.nb : Int) - (fr : Int) < (ln : Int)) = false := by simp; omega
  have d6 : decide ((ep : Int) < 0) = false := by simp
  have d7 : decide ((16777215 : Int) < (ep : Int)) = false := by simp; omega
  have HR0 := Lib.hid h
  have HS := Lib.hid hS
  have HRD := Lib.hid hR
  obtain ⟨xb0, hxb0⟩ : ∃ xb0, w.heap.size = xb0 := ⟨_, rfl⟩
  have hV0s : (w.alloc (.cells #[.int .i64 (fr : Int), .int .i64 (ln : Int)] 34)).heap.size = w.heap.size + 1 := by simp
  clear h hS hR hB
  go_enter Try.func29, Try.ntmps29
  go_upto_region 3 with (fail)
  go_quiet (fail)
  go_upto_region 5 with (fail)
  rw [hxb0] at e0 e1
  obtain ⟨V0, hV0⟩ : ∃ V0, w.alloc (.cells #[.int .i64 (fr : Int), .int .i64 (ln : Int)] 34) = V0 := ⟨_, rfl⟩
  rw [hV0] at e0 e1 r0 HBL hV0s ⊢
  have r5 : V0.cell? ⟨pr, 5, none⟩ = some (.bool false) := by
    have h9 : V0.cell? ⟨pr, 5, none⟩ = some (.bool R.off) := (HR0.out.keep HBL.out).obj.cell 5
    rw [HS.out.off, hoff] at h9
    exact h9
  have HE0 := Lib.hid (And.intro e0 e1)
  clear hV0 d1 d2 d3 d4 d5 d6 d7 q1
  go_upto_region 10 with (fail)
  refine wp_world (fun V => Below V0.heap.size V0 V) (below_drewN (Below.refl _ _) _) ?_
  clear e0 e1 r0 r5
  intro V1 hb1
  go_loopw [9, 10, 11] (fun sv lv iv wr => ∃ (i life : Nat) (acc : List UInt8), i ≤ ln ∧ iv = .int .i64 (i : Int) ∧ lv = .int .i64 (life : Int) ∧ sv = .string ⟨acc.toArray⟩ ∧ jread D fr ep (ln - i) i life acc = (st, lf) ∧ Below V0.heap.size V0 wr ∧ acc.length ≤ i * 4096 ∧ life ≤ 1048575) (fun _ _ iv _ => ln - (intOf iv).toNat)
  case atStart => exact ⟨0, 0, [], Nat.zero_le _, rfl, rfl, rfl, HRD.out, hb1, by simp, by omega⟩
  case round =>
    obtain ⟨i, life, acc, hi, rfl, rfl, rfl, hrd, hb, hacc, hlife⟩ := hrel
    have e0 : wr.cell? ⟨xb0, 0, none⟩ = some (.int .i64 (fr : Int)) := (hb.cell (World.block_lt_of_cell? V0 _ HE0.out.1)).trans HE0.out.1
    have e1 : wr.cell? ⟨xb0, 1, none⟩ = some (.int .i64 (ln : Int)) := (hb.cell (World.block_lt_of_cell? V0 _ HE0.out.2)).trans HE0.out.2
    by_cases hlt : i < ln
    · have d1 : decide (i < ln) = true := by simpa using hlt
      have hDR : R.read ((fr + i : Nat) : Int) = (0, D.blockB (fr + i)) := by
        rw [sim_read HS.out]
        unfold DS.read
        rw [if_neg (by simp [DS.hasB]; omega), if_neg (by simp [hoff])]
        rfl
      have hbl : (D.blockB (fr + i)).length ≤ 4096 := by
        unfold DS.blockB
        rw [List.length_take]
        omega
      have HREAD : Hid (∀ V, Below V0.heap.size V0 V → Calls Try.prog 51 #[.pointer (some ⟨pr, 0, none⟩), .int .i64 ((fr : Int) + (i : Int))] V fun r w' => r = .returned (.tuple #[.string ⟨(D.blockB (fr + i)).toArray⟩, .int .i64 0]) ∧ Below V.heap.size V w') := fun V hV => by
        have h9 := rread_any (n := ((fr + i : Nat) : Int)) ((HR0.out.keep HBL.out).keep hV) HS.out.rok
        rw [show ((fr : Int) + (i : Int)) = ((fr + i : Nat) : Int) by push_cast; rfl]
        refine h9.mono fun r w' ⟨he, hb9⟩ => ⟨?_, hb9⟩
        rw [he, hDR]
        rfl
      have q1 : IntKind.i64.wrap ((fr : Int) + (i : Int)) = (fr : Int) + (i : Int) := IntWalk.i64_in _ (by omega)
      obtain ⟨bl, hble⟩ : ∃ bl, D.blockB (fr + i) = bl := ⟨_, rfl⟩
      obtain ⟨⟨kd, num, ld, e⟩, hgk⟩ : ∃ x, gk bl = x := ⟨_, rfl⟩
      have hbd : kd < 256 ∧ num < 18446744073709551616 ∧ ld.length ≤ 4096 := by
        cases hg : getP bl with
        | none =>
          rw [gk_none hg] at hgk
          obtain ⟨rfl, rfl, rfl, rfl⟩ : 0 = kd ∧ 0 = num ∧ [] = ld ∧ 30 = e := by simpa using hgk
          exact ⟨by omega, by omega, by simp⟩
        | some x =>
          obtain ⟨k9, n9, l9⟩ := x
          have h9 := getP_bounds hg
          rw [gk_some hg] at hgk
          obtain ⟨rfl, rfl, rfl, rfl⟩ : k9 = kd ∧ n9 = num ∧ l9 = ld ∧ 0 = e := by simpa using hgk
          rw [hble] at hbl
          exact ⟨h9.1, h9.2.1, by omega⟩
      have hways := gk_ways D fr ep i life (kd := kd) (num := num) (e := e) (ld := ld) (hble ▸ hgk)
      rw [hble] at HREAD hbl
      have HGET := Lib.hid (fun V => gk_get (w := V) hbl hgk)
      obtain ⟨la, hla⟩ : ∃ la, ld.length = la := ⟨_, rfl⟩
      rw [hla] at HGET hbd hways
      have HLA := Lib.hid hla
      obtain ⟨at_, hat⟩ : ∃ a, lifeOf num = a := ⟨_, rfl⟩
      have hat2 : at_ ≤ 1048575 := by rw [← hat]; exact lifeOf_le num
      have QA : Hid (((num : Int) / 1048576) % 1048576 = (at_ : Int)) := by rw [← hat]; show _ = ((num / 1048576 % 1048576 : Nat) : Int); omega
      have QW : Hid (wrap64 (at_ : Int) = (at_ : Int)) := IntWalk.wrap64_in _ ⟨by omega, by omega⟩
      rw [hat] at hways
      have HWAYS := Lib.hid hways
      clear hways hgk hble hla hat hDR
      go_upto_region 13 with (go_at_call 51; refine (HREAD.out _ hb).mono ?_; rintro r w1 ⟨rfl, hb1⟩)
      have hb11 := below_step hb hb1
      go_upto_region 14 with (go_at_call 52; refine (HGET.out _).mono ?_; rintro r w2 ⟨A2, c2, rfl, hr2, hb2⟩)
      obtain ⟨xb, hxb⟩ : ∃ xb, w2.heap.size = xb := ⟨_, rfl⟩
      have hX : Blk (w2.alloc (.cells #[.int .u8 (kd : Int), .int .u64 (num : Int), .slice A2 la c2] 89)) w2.heap.size 89 #[.int .u8 (kd : Int), .int .u64 (num : Int), .slice A2 la c2] := Blk.new _ _ _
      have hbx := below_step (below_step hb11 hb2) (below_alloc w2 (.cells #[.int .u8 (kd : Int), .int .u64 (num : Int), .slice A2 la c2] 89))
      refine wp_world (fun V => (Below V0.heap.size V0 V ∧ Rd V A2 ld) ∧ Blk V w2.heap.size 89 #[.int .u8 (kd : Int), .int .u64 (num : Int), .slice A2 la c2]) ⟨⟨hbx, hr2.below (below_alloc _ _)⟩, hX⟩ ?_
      rw [hxb]
      clear hX hbx hr2 hb2 hb11 hb1 hxb HREAD HGET q1 hb
      rintro V3 ⟨⟨hb, hr3⟩, hX3⟩
      have x0 : V3.cell? ⟨xb, 0, none⟩ = some (.int .u8 (kd : Int)) := hX3.cell 0
      have x1 : V3.cell? ⟨xb, 1, none⟩ = some (.int .u64 (num : Int)) := hX3.cell 1
      have x2 : V3.cell? ⟨xb, 2, none⟩ = some (.slice A2 la c2) := hX3.cell 2
      go_upto_region 15 with (fail)
      rw [QA.out]
      have HNUM : Hid (∀ V, Calls Try.prog 27 #[.int .i64 (ep : Int), .int .i64 (at_ : Int), .int .i64 (i : Int)] V fun r w' => r = .returned (.int .u64 (jnum ep at_ i : Int)) ∧ V = w') := fun V => rnumber_any ep at_ i V hep hat2 (by omega)
      have HX3 := Lib.hid (fun n => And.intro (And.intro (below_drewN hb n) (hr3.below (below_drewN (Below.refl V3.heap.size V3) n))) (hX3.keep (below_drewN (Below.refl V3.heap.size V3) n)))
      have HRDI := Lib.hid hrd
      have hl1 : ln - i = ln - (i + 1) + 1 := by omega
      clear hb hr3 hX3 hrd e0 e1
      rcases HWAYS.out with ⟨hw4, hjn⟩ | ⟨he0, hkd, hnm, hlo, hjs⟩
      · obtain ⟨rfl, rfl⟩ : acc = st ∧ life = lf := by
          have h9 := HRDI.out
          rw [hl1, jread_none hjn] at h9
          exact ⟨congrArg Prod.fst h9, congrArg Prod.snd h9⟩
        clear HWAYS HRDI
        rcases hw4 with w1 | ⟨w1, w2⟩ | ⟨w1, w2, w3⟩ | ⟨w1, w2, w3, w4⟩
        case' inl =>
          have k1 : ((e : Int) != 0) = true := by rw [bne_iff_ne]; omega
        case' inr.inl =>
          have k1 : ((e : Int) != 0) = false := by simp; omega
          have k2 : ((kd : Int) != 74) = true := by rw [bne_iff_ne]; omega
        case' inr.inr.inl =>
          have k1 : ((e : Int) != 0) = false := by simp; omega
          have k2 : ((kd : Int) != 74) = false := by simp; omega
          have k3 : ((num : Int) != (jnum ep at_ i : Int)) = true := by rw [bne_iff_ne]; omega
          have k3' : (num != jnum ep at_ i) = true := by rw [bne_iff_ne]; exact w3
        case' inr.inr.inr =>
          have k1 : ((e : Int) != 0) = false := by simp; omega
          have k2 : ((kd : Int) != 74) = false := by simp; omega
          have k3 : ((num : Int) != (jnum ep at_ i : Int)) = false := by simp; omega
          have k4 : decide (at_ < life) = true := by simpa using w4
        all_goals
          go_quiet ((go_at_call 27; exact Calls.quiet_of_same ((HNUM.out _).mono fun e w' ⟨he, hw⟩ => ⟨he, hw.symm⟩)))
          go_upto_region 19 with (fail)
          refine wp_world (fun V => Below V0.heap.size V0 V) (HX3.out _).1.1 ?_
          clear HX3 HNUM x0 x1 x2
          intro V4 hb4
          have hst9 : acc.length ≤ 67108864 := by omega
          have hlf9 : life ≤ 1048575 := by omega
          obtain ⟨sn, hsn⟩ : ∃ sn, acc.length = sn := ⟨_, rfl⟩
          have q1 : IntKind.i64.wrap ((life : Int) + 1) = (life : Int) + 1 := IntWalk.i64_in _ (by omega)
          have a0 : V4.cell? ⟨xb0, 0, none⟩ = some (.int .i64 (fr : Int)) := (hb4.cell (World.block_lt_of_cell? V0 _ HE0.out.1)).trans HE0.out.1
          have a1 : V4.cell? ⟨xb0, 1, none⟩ = some (.int .i64 (ln : Int)) := (hb4.cell (World.block_lt_of_cell? V0 _ HE0.out.2)).trans HE0.out.2
          have hbw := below_step HBL.out hb4
          have HBW := Lib.hid hbw
          by_cases hbig : 1048575 < life + 1
          · have hd : decide ((1048575 : Int) < (life : Int) + 1) = true := by simp; omega
            clear hsn
            go_wp2
            refine bodyPost_ret (v := .tuple #[.pointer none, .slice none 0 0, .int .i64 6]) (by simp [results, Try.results29, go_sem]) rfl ⟨HBW.out, .inl ⟨hbig, rfl⟩⟩
          have hd : decide ((1048575 : Int) < (life : Int) + 1) = false := by simp; omega
          have hlt0 := fun k hk => HR0.out.lt k hk
          have HLT0 := Lib.hid hlt0
          have hRef := HR0.out.keep hbw
          have hZ : RZ V4.heap.size pr q ⟨fr, ln, ep, life + 1, [], 0, 0, false⟩ R (V4.alloc (.cells #[.pointer (some ⟨pr, 0, none⟩), .int .i64 (fr : Int), .int .i64 (ln : Int), .int .i64 (ep : Int), .int .i64 ((life : Int) + 1), .string ⟨#[]⟩, .int .i64 0, .int .i64 0, .bool false] 66)) := by
            refine ⟨?_, hRef.keep (below_alloc _ _), fun hk => by have := hlt0 _ hk; have := hbw.size; omega⟩
            have h9 := Blk.new V4 66 (rcellsJ pr ⟨fr, ln, ep, life + 1, [], 0, 0, false⟩)
            have h8 : rcellsJ pr ⟨fr, ln, ep, life + 1, [], 0, 0, false⟩ = #[.pointer (some ⟨pr, 0, none⟩), .int .i64 (fr : Int), .int .i64 (ln : Int), .int .i64 (ep : Int), .int .i64 ((life : Int) + 1), .string ⟨#[]⟩, .int .i64 0, .int .i64 0, .bool false] := by
              unfold rcellsJ
              rw [show ((life + 1 : Nat) : Int) = (life : Int) + 1 by push_cast; rfl]
              rfl
            rw [h8] at h9
            rw [h8]
            exact h9
          have hlk : w.heap.size ≤ V4.heap.size := hbw.size
          have hsz4 : V4.heap.size < (V4.alloc (.cells #[.pointer (some ⟨pr, 0, none⟩), .int .i64 (fr : Int), .int .i64 (ln : Int), .int .i64 (ep : Int), .int .i64 ((life : Int) + 1), .string ⟨#[]⟩, .int .i64 0, .int .i64 0, .bool false] 66)).heap.size := by simp
          obtain ⟨pk, hpk⟩ : ∃ pk, V4.heap.size = pk := ⟨_, rfl⟩
          rw [hpk] at hZ hlk hsz4
          have hbz := below_step hbw (below_alloc V4 (.cells #[.pointer (some ⟨pr, 0, none⟩), .int .i64 (fr : Int), .int .i64 (ln : Int), .int .i64 (ep : Int), .int .i64 ((life : Int) + 1), .string ⟨#[]⟩, .int .i64 0, .int .i64 0, .bool false] 66))
          clear hRef hlt0 hbw hb4 hst9
          go_upto_region 22 with (fail)
          refine wp_world (fun V => (RZ pk pr q ⟨fr, ln, ep, life + 1, [], 0, 0, false⟩ R V ∧ Below w.heap.size w V) ∧ pk < V.heap.size) ⟨⟨hZ, hbz⟩, hsz4⟩ ?_
          clear hZ hbz hsz4 a0 a1 hd q1 hpk
          rintro V5 ⟨⟨hZ5, hb5⟩, hk5⟩
          obtain ⟨cX, V6, hcv, hrX, hcX, hbX, hltX⟩ := jbytes_of V5 acc (by omega)
          rw [hsn] at hcv
          have hzs : (⟨acc.toArray⟩ : ByteArray).size = sn := by show acc.toArray.size = _; simp [hsn]
          have hsn9 : sn ≤ 67108864 := by omega
          have HNEW := Lib.hid (rnew_any (some ⟨V5.heap.size, 0, none⟩) acc sn cX V6 hsn (by omega) hrX)
          have HZ6 := Lib.hid (And.intro (hZ5.keep hbX) (below_step hb5 hbX))
          have hk6 : pk < V6.heap.size := by omega
          have HSN := Lib.hid hsn
          have HSNR : Hid (acc.length = sn) := hsn
          clear hZ5 hb5 hrX hbX hsn
          go_upto_region 23 with (fail)
          go_wp2_with (go_at_call 53; refine HNEW.out.mono ?_; rintro r V7 ⟨pt, B, cB, rfl, hT7, hb7, hp7, hB7, hs7⟩)
          have HX0 : Hid (ROX w V7.heap.size pk pr q ⟨fr, ln, ep, life + 1, [], 0, 0, false⟩ R pt B cB ⟨acc, 0, 0, 0⟩ (.slice none 0 0) [] V7) :=
            ⟨HZ6.out.1.keep hb7, hT7, World.ownsRow_nil _ _ _ _, below_step HZ6.out.2 hb7, Nat.le_refl _, hlk, by omega, by omega, fun b off e => by have := hB7 b off e; omega, fun k hk => HLT0.out k hk⟩
          have HRE : Hid (jrecs (fun t => t.str (acc.length : Int)) (acc.length + 1) ⟨acc, 0, 0, 0⟩ [] 0 = jopenRecs acc) := rfl
          obtain ⟨Bs, hBs⟩ : ∃ Bs, V7.heap.size = Bs := ⟨_, rfl⟩
          rw [hBs] at HX0
          clear HNEW HZ6 hT7 hb7 hp7 hB7 hs7 hBs hcv
          go_loopw [18] (fun v18 wr => ∃ (ps ft sq sp : Nat) (out : List (List UInt8)) (k : Nat) (tk : List UInt8), ROX w Bs pk pr q ⟨fr, ln, ep, life + 1, tk, 0, 0, false⟩ R pt B cB ⟨acc, ps, ft, sq⟩ v18 out wr ∧ Hid (acc.take sp = tk) ∧ sp ≤ sn ∧ out.length ≤ sp ∧ ((ft = 0 ∧ ps = sp ∧ jrecs (fun t => t.str (acc.length : Int)) k ⟨acc, ps, ft, sq⟩ out sp = jopenRecs acc ∧ sn - sp < k) ∨ (ft ≠ 0 ∧ (out, sp) = jopenRecs acc))) (fun _ wr => rgap9 pt sn wr)
          case atStart => exact ⟨0, 0, 0, 0, [], acc.length + 1, [], HX0.out, rfl, Nat.zero_le _, Nat.le_refl _, .inl ⟨rfl, rfl, HRE.out, by rw [HSN.out]; omega⟩⟩
          case round =>
            obtain ⟨ps, ft, sq, sp, out, k, tk, hX, HTK, hsp, hol, hway⟩ := hrel
            have c1 : wr.cell? ⟨pt, 1, none⟩ = some (.int .i64 (ps : Int)) := hX.tape.obj.cell 1
            have c2 : wr.cell? ⟨pt, 2, none⟩ = some (.int .i64 (ft : Int)) := hX.tape.obj.cell 2
            have HX := Lib.hid hX
            have HG := Lib.hid (rgap9_eq hX.tape sn)
            clear hX
            by_cases hgo : ft = 0 ∧ ps < sn
            · obtain ⟨hf0, hps⟩ := hgo
              obtain ⟨rfl, hrec, hk⟩ : ps = sp ∧ jrecs (fun t => t.str (acc.length : Int)) k ⟨acc, ps, ft, sq⟩ out sp = jopenRecs acc ∧ sn - sp < k := by
                rcases hway with h9 | h9
                · exact h9.2
                · exact absurd hf0 h9.1
              subst hf0
              obtain ⟨k, rfl⟩ : ∃ k', k = k' + 1 := ⟨k - 1, by omega⟩
              have HREC := Lib.hid hrec
              clear hway hrec
              have hd1 : decide (ps < sn) = true := by simpa using hps
              go_upto_region 25 with (fail)
              obtain ⟨x, hx⟩ : ∃ x, (⟨acc, ps, 0, sq⟩ : TS).str (acc.length : Int) = x := ⟨_, rfl⟩
              have HXX := Lib.hid hx
              have HPOS : Hid (x.2.fault = 0 → ps < x.2.pos ∧ x.2.pos ≤ acc.length ∧ x.2.bytes = acc) := fun h9 => by
                rw [← hx] at h9 ⊢
                exact str_pos (t := ⟨acc, ps, 0, sq⟩) rfl h9
              have HBY : Hid (x.2.bytes = acc) := by rw [← hx]; exact str_bytes _ _
              have HSTR := Lib.hid (rtext_any HX.out.tape (sn : Int) (by omega))
              rw [← HSN.out] at HSTR
              rw [hx] at HSTR
              have HXL : Hid (∀ V, RAct wr pt B cB x.2 V → ROX w Bs pk pr q ⟨fr, ln, ep, life + 1, tk, 0, 0, false⟩ R pt B cB x.2 u18 out V) := fun V hV => HX.out.read hV
              have hxl0 : x.2.fault = 0 → x.1.length ≤ acc.length := fun h9 => by
                rw [← hx] at h9 ⊢
                exact str_len (t := ⟨acc, ps, 0, sq⟩) rfl h9
              have HXL0 := Lib.hid hxl0
              clear hx hxl0
              rw [HSN.out] at HSTR
              obtain ⟨xs, by2, p2, f2, s2⟩ := x
              simp only at HPOS HSTR HXL HBY HXL0
              obtain rfl := HBY.out
              clear HBY
              go_upto_region 26 with (go_at_call 54; refine HSTR.out.mono ?_; rintro r V8 ⟨rfl, hT8⟩)
              have hX8 := HXL.out _ hT8
              clear hT8 HXL HSTR HX c1 c2
              have c2 : V8.cell? ⟨pt, 2, none⟩ = some (.int .i64 (f2 : Int)) := hX8.tape.obj.cell 2
              by_cases hf2 : f2 = 0
              · subst hf2
                have hpp := HPOS.out rfl
                have hxs := HXL0.out rfl
                rw [HSN.out] at hxs hpp
                have HX8 := Lib.hid hX8
                clear hX8
                go_upto_region 27 with (fail)
                have hone := one_cell_t xs
                have hmx : out.length + 1 ≤ maxLen := by simp only [maxLen]; omega
                have hbx : (out.length + 1) * 16 ≤ 140737488355328 := by omega
                have hcs : Cs (V8.alloc (.cells #[.string ⟨xs.toArray⟩] 9)) (some ⟨V8.heap.size, 0, none⟩) [tv xs] := cs_tv V8 xs
                have HX9 : Hid (ROX w Bs pk pr q ⟨fr, ln, ep, life + 1, tk, 0, 0, false⟩ R pt B cB ⟨by2, p2, 0, s2⟩ u18 out (V8.alloc (.cells #[.string ⟨xs.toArray⟩] 9))) := HX8.out.keep (below_alloc V8 (.cells #[.string ⟨xs.toArray⟩] 9))
                have hbs : Bs ≤ (V8.alloc (.cells #[.string ⟨xs.toArray⟩] 9)).heap.size := HX9.out.sz
                go_upto_region 28 with (at_builtin; (with_reducible refine wpList_app textsT rfl (.tmp 166) (.tmp 168) rfl Bs u18 out.length (out.map tv) rfl HX9.out.own (some ⟨V8.heap.size, 0, none⟩) 1 1 [tv xs] rfl rfl hcs hone hmx hbx hbs ?_); intro v12 V12 ho12 hg12 hw12)
                have hX12 := HX9.out.app hg12 ho12
                refine wp_world (fun V => ROX w Bs pk pr q ⟨fr, ln, ep, life + 1, tk, 0, 0, false⟩ R pt B cB ⟨by2, p2, 0, s2⟩ v12 (out ++ [xs]) V) hX12 ?_
                clear hX12 ho12 hg12 hw12 HX9 hcs hone hbs HX8 c2
                intro V13 hX13
                have c1 : V13.cell? ⟨pt, 1, none⟩ = some (.int .i64 (p2 : Int)) := hX13.tape.obj.cell 1
                have z4 : V13.cell? ⟨pk, 5, none⟩ = some (.string ⟨tk.toArray⟩) := hX13.rz.obj.cell 5
                have z4f := hX13.rz.obj.frozen 5
                obtain ⟨tk2, htk2⟩ : ∃ tk2, by2.take p2 = tk2 := ⟨_, rfl⟩
                have hex : (⟨by2.toArray⟩ : ByteArray).extract 0 p2 = ⟨tk2.toArray⟩ := by
                  rw [extract_list, ← htk2]
                  rfl
                have HTK2 := Lib.hid htk2
                have s2' : (0 : Int) ≤ (p2 : Int) := by omega
                have s3' : (p2 : Int) ≤ (sn : Int) := by omega
                have HX14 := Lib.hid (hX13.set_ (J' := ⟨fr, ln, ep, life + 1, tk2, 0, 0, false⟩) 5 (.string ⟨tk2.toArray⟩) rfl)
                clear hX13 htk2
                go_wp2
                go_roundw
                case rel =>
                  refine ⟨p2, 0, s2, p2, out ++ [xs], k, tk2, HX14.out, HTK2, by omega, by rw [List.length_append]; simp only [List.length_cons, List.length_nil]; omega, .inl ⟨rfl, rfl, ?_, by omega⟩⟩
                  rw [← HREC.out, jrecs_more (by show by2.length - ps ≠ 0; rw [HSN.out]; omega) (by show ((⟨by2, ps, 0, sq⟩ : TS).str (by2.length : Int)).2.fault = 0; rw [HXX.out])]
                  show _ = jrecs _ _ ((⟨by2, ps, 0, sq⟩ : TS).str (by2.length : Int)).2 (out ++ [((⟨by2, ps, 0, sq⟩ : TS).str (by2.length : Int)).1]) ((⟨by2, ps, 0, sq⟩ : TS).str (by2.length : Int)).2.pos
                  rw [HXX.out]
                case measure =>
                  rw [rgap9_eq HX14.out.tape, HG.out]
                  simp only [if_pos]
                  omega
              · have hd2 : ((f2 : Int) == 0) = false := by simp; omega
                have HX8 := Lib.hid hX8
                have HG8 := Lib.hid (rgap9_eq hX8.tape sn)
                clear hX8
                go_wp2
                go_roundw
                case rel =>
                  refine ⟨p2, f2, s2, ps, out, k, tk, HX8.out, HTK, hsp, hol, .inr ⟨hf2, ?_⟩⟩
                  rw [← HREC.out]
                  exact (jrecs_end (.inr (by show ((⟨by2, ps, 0, sq⟩ : TS).str (by2.length : Int)).2.fault ≠ 0; rw [HXX.out]; exact hf2))).symm
                case measure =>
                  rw [HG8.out, HG.out]
                  simp only [if_neg hf2, if_pos]
                  omega
            · have hend : (out, sp) = jopenRecs acc := by
                rcases hway with ⟨h9, h8, h7, h6⟩ | ⟨_, h9⟩
                · obtain ⟨k, rfl⟩ : ∃ k', k = k' + 1 := ⟨k - 1, by omega⟩
                  rw [← h7]
                  have h5 : ¬ ps < sn := fun h5 => hgo ⟨h9, h5⟩
                  exact (jrecs_end (.inl (by show acc.length - ps = 0; rw [HSN.out]; omega))).symm
                · exact h9
              have e1 : (jopenRecs acc).1 = out := by rw [← hend]
              have e2 : (jopenRecs acc).2 = sp := by rw [← hend]
              have HE12 := Lib.hid (And.intro e1 e2)
              have htl : tk.length = sp := by rw [← HTK.out, List.length_take, HSN.out]; omega
              have hzt : (⟨tk.toArray⟩ : ByteArray).size = sp := by show tk.toArray.size = _; simp [htl]
              have z5 : wr.cell? ⟨pk, 5, none⟩ = some (.string ⟨tk.toArray⟩) := HX.out.rz.obj.cell 5
              have z6 : wr.cell? ⟨pk, 6, none⟩ = some (.int .i64 0) := HX.out.rz.obj.cell 6
              have z6f := HX.out.rz.obj.frozen 6
              have hX6 := HX.out.set_ (J' := ⟨fr, ln, ep, life + 1, tk, sp, 0, false⟩) 6 (.int .i64 (sp : Int)) rfl
              obtain ⟨Au, cu, hu⟩ := recs_form HX.out.own
              have HU := Lib.hid hu
              subst hu
              clear hend e1 e2 htl hway
              by_cases hf0 : ft = 0
              case' pos =>
                have hps : ¬ ps < sn := fun h5 => hgo ⟨hf0, h5⟩
                have hd1 : ((ft : Int) == 0) = true := by simpa using hf0
                have hd2 : decide (ps < sn) = false := by simpa using hps
              case' neg =>
                have hd1 : ((ft : Int) == 0) = false := by simp; omega
              all_goals
                go_upto_region 30 with (fail)
                refine wp_world (fun V => ROX w Bs pk pr q ⟨fr, ln, ep, life + 1, tk, sp, 0, false⟩ R pt B cB ⟨acc, ps, ft, sq⟩ (.slice Au out.length cu) out V) hX6 ?_
                clear hX6 z5 z6 z6f c1 c2 HX HG
                intro V10 hX10
                have z7 : V10.cell? ⟨pk, 7, none⟩ = some (.int .i64 0) := hX10.rz.obj.cell 7
                have z7f := hX10.rz.obj.frozen 7
                have HX11 := Lib.hid (hX10.set_ (J' := ⟨fr, ln, ep, life + 1, tk, sp, out.length, false⟩) 7 (.int .i64 (out.length : Int)) rfl)
                clear hX10
                go_wp2
                refine bodyPost_ret (v := .tuple #[.pointer (some ⟨pk, 0, none⟩), .slice Au out.length cu, .int .i64 0]) (by simp [results, Try.results29, go_sem]) rfl ⟨HX11.out.bel, .inr ⟨hbig, pk, .slice Au out.length cu, rfl, hlk, ?_, ?_⟩⟩
                · rw [HE12.out.1, HE12.out.2, HTK.out]
                  exact HX11.out.rz
                · rw [HE12.out.1]
                  exact rlower HX11.out.own (Nat.le_of_lt (Nat.lt_of_le_of_lt HX11.out.lk (Nat.lt_trans HX11.out.kt HX11.out.tb)))
      · have k1 : ((e : Int) != 0) = false := by simp; omega
        have k2 : ((kd : Int) != 74) = false := by simp; omega
        have k3 : ((num : Int) != (jnum ep at_ i : Int)) = false := by simp; omega
        have k4 : decide (at_ < life) = false := by simpa using hlo
        clear HWAYS
        have HAT : Hid (at_ ≤ 1048575) := hat2
        go_quiet ((go_at_call 27; exact Calls.quiet_of_same ((HNUM.out _).mono fun e w' ⟨he, hw⟩ => ⟨he, hw.symm⟩)))
        go_upto_region 17 with (fail)
        refine wp_world (fun V => (Below V0.heap.size V0 V ∧ Rd V A2 ld) ∧ Blk V xb 89 #[.int .u8 (kd : Int), .int .u64 (num : Int), .slice A2 la c2]) (HX3.out _) ?_
        clear HX3 HNUM x0 x1 x2
        rintro V5 ⟨⟨hb, hr5⟩, hX5⟩
        have x2 : V5.cell? ⟨xb, 2, none⟩ = some (.slice A2 la c2) := hX5.cell 2
        have hst5 := run_str (P := Try.prog) Try.underlying23 Try.underlying5 Try.underlying9 V5 A2 la c2 ld HLA.out hr5
        obtain ⟨S2, hS2⟩ : ∃ S2, acc ++ ld = S2 := ⟨_, rfl⟩
        have hcat : (⟨acc.toArray⟩ : ByteArray) ++ ⟨ld.toArray⟩ = ⟨S2.toArray⟩ := by rw [bytes_cat, hS2]
        obtain ⟨rm, hrm⟩ : ∃ rm, D.size - 15 = rm := ⟨_, rfl⟩
        have HRM : Hid (∀ V, Calls Try.prog 14 #[.int .i64 (R.size : Int)] V fun e w' => e = .returned (.int .i64 (rm : Int)) ∧ V = w') := fun V => by rw [← hrm]; exact rroomD HS.out V
        have r1 : V5.cell? ⟨pr, 1, none⟩ = some (.int .i64 (R.size : Int)) := ((HR0.out.keep HBL.out).keep hb).obj.cell 1
        have HB5 := Lib.hid (fun n => below_drewN hb n)
        have hS2l : S2.length ≤ (i + 1) * 4096 := by
          rw [← hS2, List.length_append, HLA.out, Nat.succ_mul]; omega
        have HJS : Hid (if la < rm then (S2, at_) = (st, lf) else jread D fr ep (ln - (i + 1)) (i + 1) at_ S2 = (st, lf)) := by
          have h9 := HRDI.out
          rw [hl1] at h9
          rw [hrm] at hjs
          show if la < rm then _ else _
          by_cases hlr : la < rm
          · rw [if_pos hlr]
            rw [decide_eq_true hlr] at hjs
            rw [jread_last hjs, hS2] at h9
            exact h9
          · rw [if_neg hlr]
            rw [decide_eq_false hlr] at hjs
            rw [jread_more hjs, hS2] at h9
            exact h9
        clear hb hr5 hX5 hS2 hrm HRDI hjs
        by_cases hlr : la < rm
        · have k5 : decide (la < rm) = true := by simpa using hlr
          obtain ⟨rfl, rfl⟩ : S2 = st ∧ at_ = lf := by
            have h9 := HJS.out
            rw [if_pos hlr] at h9
            exact ⟨congrArg Prod.fst h9, congrArg Prod.snd h9⟩
          clear HJS
          have hld9 : ld.length ≤ 4096 := by rw [HLA.out]; omega
          go_upto_region 18 with (fail)
          refine wp_world (fun V => V.cell? ⟨xb, 2, none⟩ = some (.slice A2 la c2) ∧ V.cell? ⟨pr, 1, none⟩ = some (.int .i64 (R.size : Int)) ∧ Below V0.heap.size V0 V) ⟨x2, r1, HB5.out 0⟩ ?_
          clear x2 r1 HB5 hst5 hcat hld9
          rintro V6 ⟨x2, r1, hb6⟩
          have HB5 := Lib.hid (fun n => below_drewN hb6 n)
          go_quiet ((go_at_call 14; exact Calls.quiet_of_same ((HRM.out _).mono fun e w' ⟨he, hw⟩ => ⟨he, hw.symm⟩)))
          go_upto_region 19 with (fail)
          refine wp_world (fun V => Below V0.heap.size V0 V) (HB5.out _) ?_
          clear HB5 HRM r1 x2
          intro V4 hb4
          have hst9 : S2.length ≤ 67108864 := by omega
          have hlf9 : at_ ≤ 1048575 := by omega
          obtain ⟨sn, hsn⟩ : ∃ sn, S2.length = sn := ⟨_, rfl⟩
          have q1 : IntKind.i64.wrap ((at_ : Int) + 1) = (at_ : Int) + 1 := IntWalk.i64_in _ (by omega)
          have a0 : V4.cell? ⟨xb0, 0, none⟩ = some (.int .i64 (fr : Int)) := (hb4.cell (World.block_lt_of_cell? V0 _ HE0.out.1)).trans HE0.out.1
          have a1 : V4.cell? ⟨xb0, 1, none⟩ = some (.int .i64 (ln : Int)) := (hb4.cell (World.block_lt_of_cell? V0 _ HE0.out.2)).trans HE0.out.2
          have hbw := below_step HBL.out hb4
          have HBW := Lib.hid hbw
          by_cases hbig : 1048575 < at_ + 1
          · have hd : decide ((1048575 : Int) < (at_ : Int) + 1) = true := by simp; omega
            clear hsn
            go_wp2
            refine bodyPost_ret (v := .tuple #[.pointer none, .slice none 0 0, .int .i64 6]) (by simp [results, Try.results29, go_sem]) rfl ⟨HBW.out, .inl ⟨hbig, rfl⟩⟩
          have hd : decide ((1048575 : Int) < (at_ : Int) + 1) = false := by simp; omega
          have hlt0 := fun k hk => HR0.out.lt k hk
          have HLT0 := Lib.hid hlt0
          have hRef := HR0.out.keep hbw
          have hZ : RZ V4.heap.size pr q ⟨fr, ln, ep, at_ + 1, [], 0, 0, false⟩ R (V4.alloc (.cells #[.pointer (some ⟨pr, 0, none⟩), .int .i64 (fr : Int), .int .i64 (ln : Int), .int .i64 (ep : Int), .int .i64 ((at_ : Int) + 1), .string ⟨#[]⟩, .int .i64 0, .int .i64 0, .bool false] 66)) := by
            refine ⟨?_, hRef.keep (below_alloc _ _), fun hk => by have := hlt0 _ hk; have := hbw.size; omega⟩
            have h9 := Blk.new V4 66 (rcellsJ pr ⟨fr, ln, ep, at_ + 1, [], 0, 0, false⟩)
            have h8 : rcellsJ pr ⟨fr, ln, ep, at_ + 1, [], 0, 0, false⟩ = #[.pointer (some ⟨pr, 0, none⟩), .int .i64 (fr : Int), .int .i64 (ln : Int), .int .i64 (ep : Int), .int .i64 ((at_ : Int) + 1), .string ⟨#[]⟩, .int .i64 0, .int .i64 0, .bool false] := by
              unfold rcellsJ
              rw [show ((at_ + 1 : Nat) : Int) = (at_ : Int) + 1 by push_cast; rfl]
              rfl
            rw [h8] at h9
            rw [h8]
            exact h9
          have hlk : w.heap.size ≤ V4.heap.size := hbw.size
          have hsz4 : V4.heap.size < (V4.alloc (.cells #[.pointer (some ⟨pr, 0, none⟩), .int .i64 (fr : Int), .int .i64 (ln : Int), .int .i64 (ep : Int), .int .i64 ((at_ : Int) + 1), .string ⟨#[]⟩, .int .i64 0, .int .i64 0, .bool false] 66)).heap.size := by simp
          obtain ⟨pk, hpk⟩ : ∃ pk, V4.heap.size = pk := ⟨_, rfl⟩
          rw [hpk] at hZ hlk hsz4
          have hbz := below_step hbw (below_alloc V4 (.cells #[.pointer (some ⟨pr, 0, none⟩), .int .i64 (fr : Int), .int .i64 (ln : Int), .int .i64 (ep : Int), .int .i64 ((at_ : Int) + 1), .string ⟨#[]⟩, .int .i64 0, .int .i64 0, .bool false] 66))
          clear hRef hlt0 hbw hb4 hst9
          go_upto_region 22 with (fail)
          refine wp_world (fun V => (RZ pk pr q ⟨fr, ln, ep, at_ + 1, [], 0, 0, false⟩ R V ∧ Below w.heap.size w V) ∧ pk < V.heap.size) ⟨⟨hZ, hbz⟩, hsz4⟩ ?_
          clear hZ hbz hsz4 a0 a1 hd q1 hpk
          rintro V5 ⟨⟨hZ5, hb5⟩, hk5⟩
          obtain ⟨cX, V6, hcv, hrX, hcX, hbX, hltX⟩ := jbytes_of V5 S2 (by omega)
          rw [hsn] at hcv
          have hzs : (⟨S2.toArray⟩ : ByteArray).size = sn := by show S2.toArray.size = _; simp [hsn]
          have hsn9 : sn ≤ 67108864 := by omega
          have HNEW := Lib.hid (rnew_any (some ⟨V5.heap.size, 0, none⟩) S2 sn cX V6 hsn (by omega) hrX)
          have HZ6 := Lib.hid (And.intro (hZ5.keep hbX) (below_step hb5 hbX))
          have hk6 : pk < V6.heap.size := by omega
          have HSN := Lib.hid hsn
          have HSNR : Hid (S2.length = sn) := hsn
          clear hZ5 hb5 hrX hbX hsn
          go_upto_region 23 with (fail)
          go_wp2_with (go_at_call 53; refine HNEW.out.mono ?_; rintro r V7 ⟨pt, B, cB, rfl, hT7, hb7, hp7, hB7, hs7⟩)
          have HX0 : Hid (ROX w V7.heap.size pk pr q ⟨fr, ln, ep, at_ + 1, [], 0, 0, false⟩ R pt B cB ⟨S2, 0, 0, 0⟩ (.slice none 0 0) [] V7) :=
            ⟨HZ6.out.1.keep hb7, hT7, World.ownsRow_nil _ _ _ _, below_step HZ6.out.2 hb7, Nat.le_refl _, hlk, by omega, by omega, fun b off e => by have := hB7 b off e; omega, fun k hk => HLT0.out k hk⟩
          have HRE : Hid (jrecs (fun t => t.str (S2.length : Int)) (S2.length + 1) ⟨S2, 0, 0, 0⟩ [] 0 = jopenRecs S2) := rfl
          obtain ⟨Bs, hBs⟩ : ∃ Bs, V7.heap.size = Bs := ⟨_, rfl⟩
          rw [hBs] at HX0
          clear HNEW HZ6 hT7 hb7 hp7 hB7 hs7 hBs hcv
          go_loopw [18] (fun v18 wr => ∃ (ps ft sq sp : Nat) (out : List (List UInt8)) (k : Nat) (tk : List UInt8), ROX w Bs pk pr q ⟨fr, ln, ep, at_ + 1, tk, 0, 0, false⟩ R pt B cB ⟨S2, ps, ft, sq⟩ v18 out wr ∧ Hid (S2.take sp = tk) ∧ sp ≤ sn ∧ out.length ≤ sp ∧ ((ft = 0 ∧ ps = sp ∧ jrecs (fun t => t.str (S2.length : Int)) k ⟨S2, ps, ft, sq⟩ out sp = jopenRecs S2 ∧ sn - sp < k) ∨ (ft ≠ 0 ∧ (out, sp) = jopenRecs S2))) (fun _ wr => rgap9 pt sn wr)
          case atStart => exact ⟨0, 0, 0, 0, [], S2.length + 1, [], HX0.out, rfl, Nat.zero_le _, Nat.le_refl _, .inl ⟨rfl, rfl, HRE.out, by rw [HSN.out]; omega⟩⟩
          case round =>
            obtain ⟨ps, ft, sq, sp, out, k, tk, hX, HTK, hsp, hol, hway⟩ := hrel
            have c1 : wr.cell? ⟨pt, 1, none⟩ = some (.int .i64 (ps : Int)) := hX.tape.obj.cell 1
            have c2 : wr.cell? ⟨pt, 2, none⟩ = some (.int .i64 (ft : Int)) := hX.tape.obj.cell 2
            have HX := Lib.hid hX
            have HG := Lib.hid (rgap9_eq hX.tape sn)
            clear hX
            by_cases hgo : ft = 0 ∧ ps < sn
            · obtain ⟨hf0, hps⟩ := hgo
              obtain ⟨rfl, hrec, hk⟩ : ps = sp ∧ jrecs (fun t => t.str (S2.length : Int)) k ⟨S2, ps, ft, sq⟩ out sp = jopenRecs S2 ∧ sn - sp < k := by
                rcases hway with h9 | h9
                · exact h9.2
                · exact absurd hf0 h9.1
              subst hf0
              obtain ⟨k, rfl⟩ : ∃ k', k = k' + 1 := ⟨k - 1, by omega⟩
              have HREC := Lib.hid hrec
              clear hway hrec
              have hd1 : decide (ps < sn) = true := by simpa using hps
              go_upto_region 25 with (fail)
              obtain ⟨x, hx⟩ : ∃ x, (⟨S2, ps, 0, sq⟩ : TS).str (S2.length : Int) = x := ⟨_, rfl⟩
              have HXX := Lib.hid hx
              have HPOS : Hid (x.2.fault = 0 → ps < x.2.pos ∧ x.2.pos ≤ S2.length ∧ x.2.bytes = S2) := fun h9 => by
                rw [← hx] at h9 ⊢
                exact str_pos (t := ⟨S2, ps, 0, sq⟩) rfl h9
              have HBY : Hid (x.2.bytes = S2) := by rw [← hx]; exact str_bytes _ _
              have HSTR := Lib.hid (rtext_any HX.out.tape (sn : Int) (by omega))
              rw [← HSN.out] at HSTR
              rw [hx] at HSTR
              have HXL : Hid (∀ V, RAct wr pt B cB x.2 V → ROX w Bs pk pr q ⟨fr, ln, ep, at_ + 1, tk, 0, 0, false⟩ R pt B cB x.2 u18 out V) := fun V hV => HX.out.read hV
              have hxl0 : x.2.fault = 0 → x.1.length ≤ S2.length := fun h9 => by
                rw [← hx] at h9 ⊢
                exact str_len (t := ⟨S2, ps, 0, sq⟩) rfl h9
              have HXL0 := Lib.hid hxl0
              clear hx hxl0
              rw [HSN.out] at HSTR
              obtain ⟨xs, by2, p2, f2, s2⟩ := x
              simp only at HPOS HSTR HXL HBY HXL0
              obtain rfl := HBY.out
              clear HBY
              go_upto_region 26 with (go_at_call 54; refine HSTR.out.mono ?_; rintro r V8 ⟨rfl, hT8⟩)
              have hX8 := HXL.out _ hT8
              clear hT8 HXL HSTR HX c1 c2
              have c2 : V8.cell? ⟨pt, 2, none⟩ = some (.int .i64 (f2 : Int)) := hX8.tape.obj.cell 2
              by_cases hf2 : f2 = 0
              · subst hf2
                have hpp := HPOS.out rfl
                have hxs := HXL0.out rfl
                rw [HSN.out] at hxs hpp
                have HX8 := Lib.hid hX8
                clear hX8
                go_upto_region 27 with (fail)
                have hone := one_cell_t xs
                have hmx : out.length + 1 ≤ maxLen := by simp only [maxLen]; omega
                have hbx : (out.length + 1) * 16 ≤ 140737488355328 := by omega
                have hcs : Cs (V8.alloc (.cells #[.string ⟨xs.toArray⟩] 9)) (some ⟨V8.heap.size, 0, none⟩) [tv xs] := cs_tv V8 xs
                have HX9 : Hid (ROX w Bs pk pr q ⟨fr, ln, ep, at_ + 1, tk, 0, 0, false⟩ R pt B cB ⟨by2, p2, 0, s2⟩ u18 out (V8.alloc (.cells #[.string ⟨xs.toArray⟩] 9))) := HX8.out.keep (below_alloc V8 (.cells #[.string ⟨xs.toArray⟩] 9))
                have hbs : Bs ≤ (V8.alloc (.cells #[.string ⟨xs.toArray⟩] 9)).heap.size := HX9.out.sz
                go_upto_region 28 with (at_builtin; (with_reducible refine wpList_app textsT rfl (.tmp 166) (.tmp 168) rfl Bs u18 out.length (out.map tv) rfl HX9.out.own (some ⟨V8.heap.size, 0, none⟩) 1 1 [tv xs] rfl rfl hcs hone hmx hbx hbs ?_); intro v12 V12 ho12 hg12 hw12)
                have hX12 := HX9.out.app hg12 ho12
                refine wp_world (fun V => ROX w Bs pk pr q ⟨fr, ln, ep, at_ + 1, tk, 0, 0, false⟩ R pt B cB ⟨by2, p2, 0, s2⟩ v12 (out ++ [xs]) V) hX12 ?_
                clear hX12 ho12 hg12 hw12 HX9 hcs hone hbs HX8 c2
                intro V13 hX13
                have c1 : V13.cell? ⟨pt, 1, none⟩ = some (.int .i64 (p2 : Int)) := hX13.tape.obj.cell 1
                have z4 : V13.cell? ⟨pk, 5, none⟩ = some (.string ⟨tk.toArray⟩) := hX13.rz.obj.cell 5
                have z4f := hX13.rz.obj.frozen 5
                obtain ⟨tk2, htk2⟩ : ∃ tk2, by2.take p2 = tk2 := ⟨_, rfl⟩
                have hex : (⟨by2.toArray⟩ : ByteArray).extract 0 p2 = ⟨tk2.toArray⟩ := by
                  rw [extract_list, ← htk2]
                  rfl
                have HTK2 := Lib.hid htk2
                have s2' : (0 : Int) ≤ (p2 : Int) := by omega
                have s3' : (p2 : Int) ≤ (sn : Int) := by omega
                have HX14 := Lib.hid (hX13.set_ (J' := ⟨fr, ln, ep, at_ + 1, tk2, 0, 0, false⟩) 5 (.string ⟨tk2.toArray⟩) rfl)
                clear hX13 htk2
                go_wp2
                go_roundw
                case rel =>
                  refine ⟨p2, 0, s2, p2, out ++ [xs], k, tk2, HX14.out, HTK2, by omega, by rw [List.length_append]; simp only [List.length_cons, List.length_nil]; omega, .inl ⟨rfl, rfl, ?_, by omega⟩⟩
                  rw [← HREC.out, jrecs_more (by show by2.length - ps ≠ 0; rw [HSN.out]; omega) (by show ((⟨by2, ps, 0, sq⟩ : TS).str (by2.length : Int)).2.fault = 0; rw [HXX.out])]
                  show _ = jrecs _ _ ((⟨by2, ps, 0, sq⟩ : TS).str (by2.length : Int)).2 (out ++ [((⟨by2, ps, 0, sq⟩ : TS).str (by2.length : Int)).1]) ((⟨by2, ps, 0, sq⟩ : TS).str (by2.length : Int)).2.pos
                  rw [HXX.out]
                case measure =>
                  rw [rgap9_eq HX14.out.tape, HG.out]
                  simp only [if_pos]
                  omega
              · have hd2 : ((f2 : Int) == 0) = false := by simp; omega
                have HX8 := Lib.hid hX8
                have HG8 := Lib.hid (rgap9_eq hX8.tape sn)
                clear hX8
                go_wp2
                go_roundw
                case rel =>
                  refine ⟨p2, f2, s2, ps, out, k, tk, HX8.out, HTK, hsp, hol, .inr ⟨hf2, ?_⟩⟩
                  rw [← HREC.out]
                  exact (jrecs_end (.inr (by show ((⟨by2, ps, 0, sq⟩ : TS).str (by2.length : Int)).2.fault ≠ 0; rw [HXX.out]; exact hf2))).symm
                case measure =>
                  rw [HG8.out, HG.out]
                  simp only [if_neg hf2, if_pos]
                  omega
            · have hend : (out, sp) = jopenRecs S2 := by
                rcases hway with ⟨h9, h8, h7, h6⟩ | ⟨_, h9⟩
                · obtain ⟨k, rfl⟩ : ∃ k', k = k' + 1 := ⟨k - 1, by omega⟩
                  rw [← h7]
                  have h5 : ¬ ps < sn := fun h5 => hgo ⟨h9, h5⟩
                  exact (jrecs_end (.inl (by show S2.length - ps = 0; rw [HSN.out]; omega))).symm
                · exact h9
              have e1 : (jopenRecs S2).1 = out := by rw [← hend]
              have e2 : (jopenRecs S2).2 = sp := by rw [← hend]
              have HE12 := Lib.hid (And.intro e1 e2)
              have htl : tk.length = sp := by rw [← HTK.out, List.length_take, HSN.out]; omega
              have hzt : (⟨tk.toArray⟩ : ByteArray).size = sp := by show tk.toArray.size = _; simp [htl]
              have z5 : wr.cell? ⟨pk, 5, none⟩ = some (.string ⟨tk.toArray⟩) := HX.out.rz.obj.cell 5
              have z6 : wr.cell? ⟨pk, 6, none⟩ = some (.int .i64 0) := HX.out.rz.obj.cell 6
              have z6f := HX.out.rz.obj.frozen 6
              have hX6 := HX.out.set_ (J' := ⟨fr, ln, ep, at_ + 1, tk, sp, 0, false⟩) 6 (.int .i64 (sp : Int)) rfl
              obtain ⟨Au, cu, hu⟩ := recs_form HX.out.own
              have HU := Lib.hid hu
              subst hu
              clear hend e1 e2 htl hway
              by_cases hf0 : ft = 0
              case' pos =>
                have hps : ¬ ps < sn := fun h5 => hgo ⟨hf0, h5⟩
                have hd1 : ((ft : Int) == 0) = true := by simpa using hf0
                have hd2 : decide (ps < sn) = false := by simpa using hps
              case' neg =>
                have hd1 : ((ft : Int) == 0) = false := by simp; omega
              all_goals
                go_upto_region 30 with (fail)
                refine wp_world (fun V => ROX w Bs pk pr q ⟨fr, ln, ep, at_ + 1, tk, sp, 0, false⟩ R pt B cB ⟨S2, ps, ft, sq⟩ (.slice Au out.length cu) out V) hX6 ?_
                clear hX6 z5 z6 z6f c1 c2 HX HG
                intro V10 hX10
                have z7 : V10.cell? ⟨pk, 7, none⟩ = some (.int .i64 0) := hX10.rz.obj.cell 7
                have z7f := hX10.rz.obj.frozen 7
                have HX11 := Lib.hid (hX10.set_ (J' := ⟨fr, ln, ep, at_ + 1, tk, sp, out.length, false⟩) 7 (.int .i64 (out.length : Int)) rfl)
                clear hX10
                go_wp2
                refine bodyPost_ret (v := .tuple #[.pointer (some ⟨pk, 0, none⟩), .slice Au out.length cu, .int .i64 0]) (by simp [results, Try.results29, go_sem]) rfl ⟨HX11.out.bel, .inr ⟨hbig, pk, .slice Au out.length cu, rfl, hlk, ?_, ?_⟩⟩
                · rw [HE12.out.1, HE12.out.2, HTK.out]
                  exact HX11.out.rz
                · rw [HE12.out.1]
                  exact rlower HX11.out.own (Nat.le_of_lt (Nat.lt_of_le_of_lt HX11.out.lk (Nat.lt_trans HX11.out.kt HX11.out.tb)))
        · have k5 : decide (la < rm) = false := by simpa using hlr
          have HJN : Hid (jread D fr ep (ln - (i + 1)) (i + 1) at_ S2 = (st, lf)) := by
            have h9 := HJS.out
            rw [if_neg hlr] at h9
            exact h9
          clear HJS
          have hld9 : ld.length ≤ 4096 := by rw [HLA.out]; omega
          go_upto_region 18 with (fail)
          refine wp_world (fun V => V.cell? ⟨xb, 2, none⟩ = some (.slice A2 la c2) ∧ V.cell? ⟨pr, 1, none⟩ = some (.int .i64 (R.size : Int)) ∧ Below V0.heap.size V0 V) ⟨x2, r1, HB5.out 0⟩ ?_
          clear x2 r1 HB5 hst5 hcat hld9
          rintro V6 ⟨x2, r1, hb6⟩
          have HB5 := Lib.hid (fun n => below_drewN hb6 n)
          go_quiet ((go_at_call 14; exact Calls.quiet_of_same ((HRM.out _).mono fun e w' ⟨he, hw⟩ => ⟨he, hw.symm⟩)))
          go_wp2
          go_roundw
          case rel => exact ⟨i + 1, at_, S2, by omega, by go_num, rfl, rfl, HJN.out, HB5.out _, hS2l, hat2⟩
          case measure => simp [intOf]; omega
    · have d1 : decide (i < ln) = false := by simpa using hlt
      obtain ⟨rfl, rfl⟩ : acc = st ∧ life = lf := by
        have h9 := hrd
        rw [show ln - i = 0 by omega, jread_zero] at h9
        exact ⟨congrArg Prod.fst h9, congrArg Prod.snd h9⟩
      clear hrd
      go_upto_region 19 with (fail)
      refine wp_world (fun V => Below V0.heap.size V0 V) hb ?_
      clear e0 e1 hb
      intro V4 hb4
      have hst9 : acc.length ≤ 67108864 := by omega
      have hlf9 : life ≤ 1048575 := by omega
      obtain ⟨sn, hsn⟩ : ∃ sn, acc.length = sn := ⟨_, rfl⟩
      have q1 : IntKind.i64.wrap ((life : Int) + 1) = (life : Int) + 1 := IntWalk.i64_in _ (by omega)
      have a0 : V4.cell? ⟨xb0, 0, none⟩ = some (.int .i64 (fr : Int)) := (hb4.cell (World.block_lt_of_cell? V0 _ HE0.out.1)).trans HE0.out.1
      have a1 : V4.cell? ⟨xb0, 1, none⟩ = some (.int .i64 (ln : Int)) := (hb4.cell (World.block_lt_of_cell? V0 _ HE0.out.2)).trans HE0.out.2
      have hbw := below_step HBL.out hb4
      have HBW := Lib.hid hbw
      by_cases hbig : 1048575 < life + 1
      · have hd : decide ((1048575 : Int) < (life : Int) + 1) = true := by simp; omega
        clear hsn
        go_wp2
        refine bodyPost_ret (v := .tuple #[.pointer none, .slice none 0 0, .int .i64 6]) (by simp [results, Try.results29, go_sem]) rfl ⟨HBW.out, .inl ⟨hbig, rfl⟩⟩
      have hd : decide ((1048575 : Int) < (life : Int) + 1) = false := by simp; omega
      have hlt0 := fun k hk => HR0.out.lt k hk
      have HLT0 := Lib.hid hlt0
      have hRef := HR0.out.keep hbw
      have hZ : RZ V4.heap.size pr q ⟨fr, ln, ep, life + 1, [], 0, 0, false⟩ R (V4.alloc (.cells #[.pointer (some ⟨pr, 0, none⟩), .int .i64 (fr : Int), .int .i64 (ln : Int), .int .i64 (ep : Int), .int .i64 ((life : Int) + 1), .string ⟨#[]⟩, .int .i64 0, .int .i64 0, .bool false] 66)) := by
        refine ⟨?_, hRef.keep (below_alloc _ _), fun hk => by have := hlt0 _ hk; have := hbw.size; omega⟩
        have h9 := Blk.new V4 66 (rcellsJ pr ⟨fr, ln, ep, life + 1, [], 0, 0, false⟩)
        have h8 : rcellsJ pr ⟨fr, ln, ep, life + 1, [], 0, 0, false⟩ = #[.pointer (some ⟨pr, 0, none⟩), .int .i64 (fr : Int), .int .i64 (ln : Int), .int .i64 (ep : Int), .int .i64 ((life : Int) + 1), .string ⟨#[]⟩, .int .i64 0, .int .i64 0, .bool false] := by
          unfold rcellsJ
          rw [show ((life + 1 : Nat) : Int) = (life : Int) + 1 by push_cast; rfl]
          rfl
        rw [h8] at h9
        rw [h8]
        exact h9
      have hlk : w.heap.size ≤ V4.heap.size := hbw.size
      have hsz4 : V4.heap.size < (V4.alloc (.cells #[.pointer (some ⟨pr, 0, none⟩), .int .i64 (fr : Int), .int .i64 (ln : Int), .int .i64 (ep : Int), .int .i64 ((life : Int) + 1), .string ⟨#[]⟩, .int .i64 0, .int .i64 0, .bool false] 66)).heap.size := by simp
      obtain ⟨pk, hpk⟩ : ∃ pk, V4.heap.size = pk := ⟨_, rfl⟩
      rw [hpk] at hZ hlk hsz4
      have hbz := below_step hbw (below_alloc V4 (.cells #[.pointer (some ⟨pr, 0, none⟩), .int .i64 (fr : Int), .int .i64 (ln : Int), .int .i64 (ep : Int), .int .i64 ((life : Int) + 1), .string ⟨#[]⟩, .int .i64 0, .int .i64 0, .bool false] 66))
      clear hRef hlt0 hbw hb4 hst9
      go_upto_region 22 with (fail)
      refine wp_world (fun V => (RZ pk pr q ⟨fr, ln, ep, life + 1, [], 0, 0, false⟩ R V ∧ Below w.heap.size w V) ∧ pk < V.heap.size) ⟨⟨hZ, hbz⟩, hsz4⟩ ?_
      clear hZ hbz hsz4 a0 a1 hd q1 hpk
      rintro V5 ⟨⟨hZ5, hb5⟩, hk5⟩
      obtain ⟨cX, V6, hcv, hrX, hcX, hbX, hltX⟩ := jbytes_of V5 acc (by omega)
      rw [hsn] at hcv
      have hzs : (⟨acc.toArray⟩ : ByteArray).size = sn := by show acc.toArray.size = _; simp [hsn]
      have hsn9 : sn ≤ 67108864 := by omega
      have HNEW := Lib.hid (rnew_any (some ⟨V5.heap.size, 0, none⟩) acc sn cX V6 hsn (by omega) hrX)
      have HZ6 := Lib.hid (And.intro (hZ5.keep hbX) (below_step hb5 hbX))
      have hk6 : pk < V6.heap.size := by omega
      have HSN := Lib.hid hsn
      have HSNR : Hid (acc.length = sn) := hsn
      clear hZ5 hb5 hrX hbX hsn
      go_upto_region 23 with (fail)
      go_wp2_with (go_at_call 53; refine HNEW.out.mono ?_; rintro r V7 ⟨pt, B, cB, rfl, hT7, hb7, hp7, hB7, hs7⟩)
      have HX0 : Hid (ROX w V7.heap.size pk pr q ⟨fr, ln, ep, life + 1, [], 0, 0, false⟩ R pt B cB ⟨acc, 0, 0, 0⟩ (.slice none 0 0) [] V7) :=
        ⟨HZ6.out.1.keep hb7, hT7, World.ownsRow_nil _ _ _ _, below_step HZ6.out.2 hb7, Nat.le_refl _, hlk, by omega, by omega, fun b off e => by have := hB7 b off e; omega, fun k hk => HLT0.out k hk⟩
      have HRE : Hid (jrecs (fun t => t.str (acc.length : Int)) (acc.length + 1) ⟨acc, 0, 0, 0⟩ [] 0 = jopenRecs acc) := rfl
      obtain ⟨Bs, hBs⟩ : ∃ Bs, V7.heap.size = Bs := ⟨_, rfl⟩
      rw [hBs] at HX0
      clear HNEW HZ6 hT7 hb7 hp7 hB7 hs7 hBs hcv
      go_loopw [18] (fun v18 wr => ∃ (ps ft sq sp : Nat) (out : List (List UInt8)) (k : Nat) (tk : List UInt8), ROX w Bs pk pr q ⟨fr, ln, ep, life + 1, tk, 0, 0, false⟩ R pt B cB ⟨acc, ps, ft, sq⟩ v18 out wr ∧ Hid (acc.take sp = tk) ∧ sp ≤ sn ∧ out.length ≤ sp ∧ ((ft = 0 ∧ ps = sp ∧ jrecs (fun t => t.str (acc.length : Int)) k ⟨acc, ps, ft, sq⟩ out sp = jopenRecs acc ∧ sn - sp < k) ∨ (ft ≠ 0 ∧ (out, sp) = jopenRecs acc))) (fun _ wr => rgap9 pt sn wr)
      case atStart => exact ⟨0, 0, 0, 0, [], acc.length + 1, [], HX0.out, rfl, Nat.zero_le _, Nat.le_refl _, .inl ⟨rfl, rfl, HRE.out, by rw [HSN.out]; omega⟩⟩
      case round =>
        obtain ⟨ps, ft, sq, sp, out, k, tk, hX, HTK, hsp, hol, hway⟩ := hrel
        have c1 : wr.cell? ⟨pt, 1, none⟩ = some (.int .i64 (ps : Int)) := hX.tape.obj.cell 1
        have c2 : wr.cell? ⟨pt, 2, none⟩ = some (.int .i64 (ft : Int)) := hX.tape.obj.cell 2
        have HX := Lib.hid hX
        have HG := Lib.hid (rgap9_eq hX.tape sn)
        clear hX
        by_cases hgo : ft = 0 ∧ ps < sn
        · obtain ⟨hf0, hps⟩ := hgo
          obtain ⟨rfl, hrec, hk⟩ : ps = sp ∧ jrecs (fun t => t.str (acc.length : Int)) k ⟨acc, ps, ft, sq⟩ out sp = jopenRecs acc ∧ sn - sp < k := by
            rcases hway with h9 | h9
            · exact h9.2
            · exact absurd hf0 h9.1
          subst hf0
          obtain ⟨k, rfl⟩ : ∃ k', k = k' + 1 := ⟨k - 1, by omega⟩
          have HREC := Lib.hid hrec
          clear hway hrec
          have hd1 : decide (ps < sn) = true := by simpa using hps
          go_upto_region 25 with (fail)
          obtain ⟨x, hx⟩ : ∃ x, (⟨acc, ps, 0, sq⟩ : TS).str (acc.length : Int) = x := ⟨_, rfl⟩
          have HXX := Lib.hid hx
          have HPOS : Hid (x.2.fault = 0 → ps < x.2.pos ∧ x.2.pos ≤ acc.length ∧ x.2.bytes = acc) := fun h9 => by
            rw [← hx] at h9 ⊢
            exact str_pos (t := ⟨acc, ps, 0, sq⟩) rfl h9
          have HBY : Hid (x.2.bytes = acc) := by rw [← hx]; exact str_bytes _ _
          have HSTR := Lib.hid (rtext_any HX.out.tape (sn : Int) (by omega))
          rw [← HSN.out] at HSTR
          rw [hx] at HSTR
          have HXL : Hid (∀ V, RAct wr pt B cB x.2 V → ROX w Bs pk pr q ⟨fr, ln, ep, life + 1, tk, 0, 0, false⟩ R pt B cB x.2 u18 out V) := fun V hV => HX.out.read hV
          have hxl0 : x.2.fault = 0 → x.1.length ≤ acc.length := fun h9 => by
            rw [← hx] at h9 ⊢
            exact str_len (t := ⟨acc, ps, 0, sq⟩) rfl h9
          have HXL0 := Lib.hid hxl0
          clear hx hxl0
          rw [HSN.out] at HSTR
          obtain ⟨xs, by2, p2, f2, s2⟩ := x
          simp only at HPOS HSTR HXL HBY HXL0
          obtain rfl := HBY.out
          clear HBY
          go_upto_region 26 with (go_at_call 54; refine HSTR.out.mono ?_; rintro r V8 ⟨rfl, hT8⟩)
          have hX8 := HXL.out _ hT8
          clear hT8 HXL HSTR HX c1 c2
          have c2 : V8.cell? ⟨pt, 2, none⟩ = some (.int .i64 (f2 : Int)) := hX8.tape.obj.cell 2
          by_cases hf2 : f2 = 0
          · subst hf2
            have hpp := HPOS.out rfl
            have hxs := HXL0.out rfl
            rw [HSN.out] at hxs hpp
            have HX8 := Lib.hid hX8
            clear hX8
            go_upto_region 27 with (fail)
            have hone := one_cell_t xs
            have hmx : out.length + 1 ≤ maxLen := by simp only [maxLen]; omega
            have hbx : (out.length + 1) * 16 ≤ 140737488355328 := by omega
            have hcs : Cs (V8.alloc (.cells #[.string ⟨xs.toArray⟩] 9)) (some ⟨V8.heap.size, 0, none⟩) [tv xs] := cs_tv V8 xs
            have HX9 : Hid (ROX w Bs pk pr q ⟨fr, ln, ep, life + 1, tk, 0, 0, false⟩ R pt B cB ⟨by2, p2, 0, s2⟩ u18 out (V8.alloc (.cells #[.string ⟨xs.toArray⟩] 9))) := HX8.out.keep (below_alloc V8 (.cells #[.string ⟨xs.toArray⟩] 9))
            have hbs : Bs ≤ (V8.alloc (.cells #[.string ⟨xs.toArray⟩] 9)).heap.size := HX9.out.sz
            go_upto_region 28 with (at_builtin; (with_reducible refine wpList_app textsT rfl (.tmp 166) (.tmp 168) rfl Bs u18 out.length (out.map tv) rfl HX9.out.own (some ⟨V8.heap.size, 0, none⟩) 1 1 [tv xs] rfl rfl hcs hone hmx hbx hbs ?_); intro v12 V12 ho12 hg12 hw12)
            have hX12 := HX9.out.app hg12 ho12
            refine wp_world (fun V => ROX w Bs pk pr q ⟨fr, ln, ep, life + 1, tk, 0, 0, false⟩ R pt B cB ⟨by2, p2, 0, s2⟩ v12 (out ++ [xs]) V) hX12 ?_
            clear hX12 ho12 hg12 hw12 HX9 hcs hone hbs HX8 c2
            intro V13 hX13
            have c1 : V13.cell? ⟨pt, 1, none⟩ = some (.int .i64 (p2 : Int)) := hX13.tape.obj.cell 1
            have z4 : V13.cell? ⟨pk, 5, none⟩ = some (.string ⟨tk.toArray⟩) := hX13.rz.obj.cell 5
            have z4f := hX13.rz.obj.frozen 5
            obtain ⟨tk2, htk2⟩ : ∃ tk2, by2.take p2 = tk2 := ⟨_, rfl⟩
            have hex : (⟨by2.toArray⟩ : ByteArray).extract 0 p2 = ⟨tk2.toArray⟩ := by
              rw [extract_list, ← htk2]
              rfl
            have HTK2 := Lib.hid htk2
            have s2' : (0 : Int) ≤ (p2 : Int) := by omega
            have s3' : (p2 : Int) ≤ (sn : Int) := by omega
            have HX14 := Lib.hid (hX13.set_ (J' := ⟨fr, ln, ep, life + 1, tk2, 0, 0, false⟩) 5 (.string ⟨tk2.toArray⟩) rfl)
            clear hX13 htk2
            go_wp2
            go_roundw
            case rel =>
              refine ⟨p2, 0, s2, p2, out ++ [xs], k, tk2, HX14.out, HTK2, by omega, by rw [List.length_append]; simp only [List.length_cons, List.length_nil]; omega, .inl ⟨rfl, rfl, ?_, by omega⟩⟩
              rw [← HREC.out, jrecs_more (by show by2.length - ps ≠ 0; rw [HSN.out]; omega) (by show ((⟨by2, ps, 0, sq⟩ : TS).str (by2.length : Int)).2.fault = 0; rw [HXX.out])]
              show _ = jrecs _ _ ((⟨by2, ps, 0, sq⟩ : TS).str (by2.length : Int)).2 (out ++ [((⟨by2, ps, 0, sq⟩ : TS).str (by2.length : Int)).1]) ((⟨by2, ps, 0, sq⟩ : TS).str (by2.length : Int)).2.pos
              rw [HXX.out]
            case measure =>
              rw [rgap9_eq HX14.out.tape, HG.out]
              simp only [if_pos]
              omega
          · have hd2 : ((f2 : Int) == 0) = false := by simp; omega
            have HX8 := Lib.hid hX8
            have HG8 := Lib.hid (rgap9_eq hX8.tape sn)
            clear hX8
            go_wp2
            go_roundw
            case rel =>
              refine ⟨p2, f2, s2, ps, out, k, tk, HX8.out, HTK, hsp, hol, .inr ⟨hf2, ?_⟩⟩
              rw [← HREC.out]
              exact (jrecs_end (.inr (by show ((⟨by2, ps, 0, sq⟩ : TS).str (by2.length : Int)).2.fault ≠ 0; rw [HXX.out]; exact hf2))).symm
            case measure =>
              rw [HG8.out, HG.out]
              simp only [if_neg hf2, if_pos]
              omega
        · have hend : (out, sp) = jopenRecs acc := by
            rcases hway with ⟨h9, h8, h7, h6⟩ | ⟨_, h9⟩
            · obtain ⟨k, rfl⟩ : ∃ k', k = k' + 1 := ⟨k - 1, by omega⟩
              rw [← h7]
              have h5 : ¬ ps < sn := fun h5 => hgo ⟨h9, h5⟩
              exact (jrecs_end (.inl (by show acc.length - ps = 0; rw [HSN.out]; omega))).symm
            · exact h9
          have e1 : (jopenRecs acc).1 = out := by rw [← hend]
          have e2 : (jopenRecs acc).2 = sp := by rw [← hend]
          have HE12 := Lib.hid (And.intro e1 e2)
          have htl : tk.length = sp := by rw [← HTK.out, List.length_take, HSN.out]; omega
          have hzt : (⟨tk.toArray⟩ : ByteArray).size = sp := by show tk.toArray.size = _; simp [htl]
          have z5 : wr.cell? ⟨pk, 5, none⟩ = some (.string ⟨tk.toArray⟩) := HX.out.rz.obj.cell 5
          have z6 : wr.cell? ⟨pk, 6, none⟩ = some (.int .i64 0) := HX.out.rz.obj.cell 6
          have z6f := HX.out.rz.obj.frozen 6
          have hX6 := HX.out.set_ (J' := ⟨fr, ln, ep, life + 1, tk, sp, 0, false⟩) 6 (.int .i64 (sp : Int)) rfl
          obtain ⟨Au, cu, hu⟩ := recs_form HX.out.own
          have HU := Lib.hid hu
          subst hu
          clear hend e1 e2 htl hway
          by_cases hf0 : ft = 0
          case' pos =>
            have hps : ¬ ps < sn := fun h5 => hgo ⟨hf0, h5⟩
            have hd1 : ((ft : Int) == 0) = true := by simpa using hf0
            have hd2 : decide (ps < sn) = false := by simpa using hps
          case' neg =>
            have hd1 : ((ft : Int) == 0) = false := by simp; omega
          all_goals
            go_upto_region 30 with (fail)
            refine wp_world (fun V => ROX w Bs pk pr q ⟨fr, ln, ep, life + 1, tk, sp, 0, false⟩ R pt B cB ⟨acc, ps, ft, sq⟩ (.slice Au out.length cu) out V) hX6 ?_
            clear hX6 z5 z6 z6f c1 c2 HX HG
            intro V10 hX10
            have z7 : V10.cell? ⟨pk, 7, none⟩ = some (.int .i64 0) := hX10.rz.obj.cell 7
            have z7f := hX10.rz.obj.frozen 7
            have HX11 := Lib.hid (hX10.set_ (J' := ⟨fr, ln, ep, life + 1, tk, sp, out.length, false⟩) 7 (.int .i64 (out.length : Int)) rfl)
            clear hX10
            go_wp2
            refine bodyPost_ret (v := .tuple #[.pointer (some ⟨pk, 0, none⟩), .slice Au out.length cu, .int .i64 0]) (by simp [results, Try.results29, go_sem]) rfl ⟨HX11.out.bel, .inr ⟨hbig, pk, .slice Au out.length cu, rfl, hlk, ?_, ?_⟩⟩
            · rw [HE12.out.1, HE12.out.2, HTK.out]
              exact HX11.out.rz
            · rw [HE12.out.1]
              exact rlower HX11.out.own (Nat.le_of_lt (Nat.lt_of_le_of_lt HX11.out.lk (Nat.lt_trans HX11.out.kt HX11.out.tb)))
end
end
end Go.Proofs.Ytcnhfbckaacalaa
