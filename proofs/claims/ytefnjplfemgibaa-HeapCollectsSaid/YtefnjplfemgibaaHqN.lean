/- Heap (layer 9): the document's Get: what it keeps; count; the plain law. Written by hqgenm.py. Heap (layer 9): the document's Get, the walk. Written by hqgenn.py. -/
import Derived.Test.YtefnjplfemgibaaHpU
import Derived.Test.YtefnjplfemgibaaHpO
import Derived.Test.YtefnjplfemgibaaRdrB
import Derived.Test.YtefnjplfemgibaaHpT
import Derived.Deep.DeepCutAuto
import Derived.Deep.CutBlock
namespace Go.Proofs.Ytefnjplfemgibaa
section
open Go.RowKit
set_option linter.unusedVariables false

theorem ReadAt.frm {F : Nat → Prop} {W V : World} {pt cB : Nat} {B : Option Addr} {t : TS} (h : ReadAt pt B cB t W) (hf : Fr F W V) (h1 : ¬ F pt) (h2 : ∀ b off, B = some ⟨b, off, none⟩ → ¬ F b) : ReadAt pt B cB t V :=
  { h with obj := hf.blk h.obj h1, rd := hf.rd h.rd (fun b off e9 _ => h2 b off e9) }
structure QG (w0 : World) (P0 g gh pt : Nat) (B : Option Addr) (cB : Nat) (vw va vr : Value) (ws : List Nat) (nm : List (List UInt8)) (rs : List Nat) (t : TS) (W : World) : Prop where
  old : Below w0.heap.size w0 W
  tape : ReadAt pt B cB t W
  hb : Blk W gh 29 #[vw, va, vr]
  rg : Blk W g 29 #[.slice none 0 0, .slice none 0 0, .slice none 0 0]
  ow : W.ownsRow P0 34 1 vw ws.length (ws.map nv)
  oa : W.ownsRow P0 9 1 va nm.length (nm.map hv)
  orr : W.ownsRow P0 34 1 vr rs.length (rs.map nv)
  lo : w0.heap.size ≤ pt ∧ w0.heap.size ≤ gh ∧ w0.heap.size ≤ g ∧ w0.heap.size ≤ P0
  hi : pt < P0 ∧ gh < P0 ∧ g < P0 ∧ P0 ≤ W.heap.size
  ne : pt ≠ gh ∧ pt ≠ g ∧ gh ≠ g
  bB : ∀ b off, B = some ⟨b, off, none⟩ → b < P0 ∧ b ≠ gh
  apart : ∀ k, (vw.ownBlock = some k → va.ownBlock ≠ some k ∧ vr.ownBlock ≠ some k) ∧ (va.ownBlock = some k → vr.ownBlock ≠ some k)
  w64 : W64 ws
  r64 : W64 rs
section
variable {w0 W W' V : World} {P0 g gh pt : Nat} {B : Option Addr} {cB : Nat} {vw va vr v' : Value} {ws rs xs : List Nat} {nm ss : List (List UInt8)} {t t' : TS}
theorem QG.keep (h : QG w0 P0 g gh pt B cB vw va vr ws nm rs t W) (hb : Below W.heap.size W V) : QG w0 P0 g gh pt B cB vw va vr ws nm rs t V :=
  { h with old := below_step h.old hb, tape := h.tape.keep hb, hb := h.hb.keep hb, rg := h.rg.keep hb, ow := own_far h.ow hb, oa := own_far h.oa hb, orr := own_far h.orr hb, hi := ⟨h.hi.1, h.hi.2.1, h.hi.2.2.1, Nat.le_trans h.hi.2.2.2 hb.size⟩ }
theorem QG.ract (h : QG w0 P0 g gh pt B cB vw va vr ws nm rs t W) (a : RAct W pt B cB t' V) : QG w0 P0 g gh pt B cB vw va vr ws nm rs t' V := by
  obtain ⟨n1, n2, n3⟩ := h.ne
  obtain ⟨i1, i2, i3, i4⟩ := h.hi
  have hrow : ∀ {e' n : Nat} {v : Value} {cs : List Value}, W.ownsRow P0 e' 1 v n cs → V.ownsRow P0 e' 1 v n cs := fun ho => own_at ho fun k hk => a.fr.block k (own_heap ho hk).2.1 (fun e9 => by have := (own_heap ho hk).1; omega)
  exact { h with
    old := h.old.trans (a.fr.below h.old.size (fun k hk => by rw [hk]; exact h.lo.1))
    tape := a.tape
    hb := a.fr.blk h.hb (fun e9 => n1 e9.symm)
    rg := a.fr.blk h.rg (fun e9 => n2 e9.symm)
    ow := hrow h.ow
    oa := hrow h.oa
    orr := hrow h.orr
    hi := ⟨i1, i2, i3, Nat.le_trans i4 a.fr.size⟩ }
theorem QG.setW (h : QG w0 P0 g gh pt B cB vw va vr ws nm rs t W) (ho : V.ownsRow P0 34 1 v' xs.length (xs.map nv)) (hg : W.grownBy V vw.ownBlock) (hat : v'.ownBlock = vw.ownBlock ∨ v'.ownBlock = some W.heap.size) (h64 : W64 xs) : QG w0 P0 g gh pt B cB v' va vr xs nm rs t (V.setCell ⟨gh, 0, none⟩ v') := by
  obtain ⟨n1, n2, n3⟩ := h.ne
  obtain ⟨i1, i2, i3, i4⟩ := h.hi
  have hlo : ∀ k, vw.ownBlock = some k → P0 ≤ k := fun k hk => (own_heap h.ow hk).1
  have hf : Fr (fun k => P0 ≤ k ∨ k = gh) W (V.setCell ⟨gh, 0, none⟩ v') := (Fr.of_grown hg fun k hk _ => .inl (hlo k hk)).same (Fr.setCell (fun k => P0 ≤ k ∨ k = gh) V (p := ⟨gh, 0, none⟩) (fun _ => .inr rfl) _)
  have hrow : ∀ {e' n : Nat} {u : Value} {cs : List Value}, W.ownsRow P0 e' 1 u n cs → (∀ k, u.ownBlock = some k → vw.ownBlock ≠ some k) → (V.setCell ⟨gh, 0, none⟩ v').ownsRow P0 e' 1 u n cs := fun hu hn => own_at hu fun k hk => (Below.heap_setCell V ⟨gh, 0, none⟩ v' k (fun e9 => by have := (own_heap hu hk).1; have e8 : k = gh := e9; omega)).trans (hg.block k (own_heap hu hk).2.1 (fun e9 => hn k hk e9.symm))
  have hv' : ∀ k, v'.ownBlock = some k → vw.ownBlock = some k ∨ k = W.heap.size := fun k hk => by
    rcases hat with h1 | h1
    · rw [h1] at hk; exact .inl hk
    · rw [h1] at hk; exact .inr (Option.some.inj hk).symm
  have hsz : (V.setCell ⟨gh, 0, none⟩ v').heap.size = V.heap.size := by simp [World.setCell]
  have hB : Blk V gh 29 #[vw, va, vr] := h.hb.grown hg (fun e9 => by have := hlo gh e9.symm; omega)
  exact { h with
    old := h.old.trans (hf.below h.old.size (fun k hk => by rcases hk with hk | rfl; exact Nat.le_trans h.lo.2.2.2 hk; exact h.lo.2.1))
    tape := h.tape.frm hf (by rintro (h9 | h9); omega; exact n1 h9) (fun b off e9 h9 => by have := h.bB b off e9; rcases h9 with h9 | h9; omega; exact this.2 h9)
    hb := hB.set_ 0 v'
    rg := hf.blk h.rg (by rintro (h9 | h9); omega; exact n3 h9.symm)
    ow := own_at ho fun k hk => Below.heap_setCell V ⟨gh, 0, none⟩ v' k (fun e9 => by have := (own_heap ho hk).1; have e8 : k = gh := e9; omega)
    oa := hrow h.oa (fun k hk h9 => ((h.apart k).1 h9).1 hk)
    orr := hrow h.orr (fun k hk h9 => ((h.apart k).1 h9).2 hk)
    apart := fun k => ⟨fun hk => ⟨fun h9 => (by rcases hv' k hk with h8 | h8; exact (fun k hk => ((h.apart k).1 hk).1) k h8 h9; have := (own_heap h.oa h9).2.1; omega), fun h9 => (by rcases hv' k hk with h8 | h8; exact (fun k hk => ((h.apart k).1 hk).2) k h8 h9; have := (own_heap h.orr h9).2.1; omega)⟩, fun hk h9 => ((fun k hk => (h.apart k).2 hk) k hk h9)⟩
    hi := ⟨i1, i2, i3, by rw [hsz]; exact Nat.le_trans i4 hg.size⟩
    w64 := h64 }
theorem QG.setA (h : QG w0 P0 g gh pt B cB vw va vr ws nm rs t W) (ho : V.ownsRow P0 9 1 v' ss.length (ss.map hv)) (hg : W.grownBy V va.ownBlock) (hat : v'.ownBlock = va.ownBlock ∨ v'.ownBlock = some W.heap.size) : QG w0 P0 g gh pt B cB vw v' vr ws ss rs t (V.setCell ⟨gh, 1, none⟩ v') := by
  obtain ⟨n1, n2, n3⟩ := h.ne
  obtain ⟨i1, i2, i3, i4⟩ := h.hi
  have hlo : ∀ k, va.ownBlock = some k → P0 ≤ k := fun k hk => (own_heap h.oa hk).1
  have hf : Fr (fun k => P0 ≤ k ∨ k = gh) W (V.setCell ⟨gh, 1, none⟩ v') := (Fr.of_grown hg fun k hk _ => .inl (hlo k hk)).same (Fr.setCell (fun k => P0 ≤ k ∨ k = gh) V (p := ⟨gh, 1, none⟩) (fun _ => .inr rfl) _)
  have hrow : ∀ {e' n : Nat} {u : Value} {cs : List Value}, W.ownsRow P0 e' 1 u n cs → (∀ k, u.ownBlock = some k → va.ownBlock ≠ some k) → (V.setCell ⟨gh, 1, none⟩ v').ownsRow P0 e' 1 u n cs := fun hu hn => own_at hu fun k hk => (Below.heap_setCell V ⟨gh, 1, none⟩ v' k (fun e9 => by have := (own_heap hu hk).1; have e8 : k = gh := e9; omega)).trans (hg.block k (own_heap hu hk).2.1 (fun e9 => hn k hk e9.symm))
  have hv' : ∀ k, v'.ownBlock = some k → va.ownBlock = some k ∨ k = W.heap.size := fun k hk => by
    rcases hat with h1 | h1
    · rw [h1] at hk; exact .inl hk
    · rw [h1] at hk; exact .inr (Option.some.inj hk).symm
  have hsz : (V.setCell ⟨gh, 1, none⟩ v').heap.size = V.heap.size := by simp [World.setCell]
  have hB : Blk V gh 29 #[vw, va, vr] := h.hb.grown hg (fun e9 => by have := hlo gh e9.symm; omega)
  exact { h with
    old := h.old.trans (hf.below h.old.size (fun k hk => by rcases hk with hk | rfl; exact Nat.le_trans h.lo.2.2.2 hk; exact h.lo.2.1))
    tape := h.tape.frm hf (by rintro (h9 | h9); omega; exact n1 h9) (fun b off e9 h9 => by have := h.bB b off e9; rcases h9 with h9 | h9; omega; exact this.2 h9)
    hb := hB.set_ 1 v'
    rg := hf.blk h.rg (by rintro (h9 | h9); omega; exact n3 h9.symm)
    oa := own_at ho fun k hk => Below.heap_setCell V ⟨gh, 1, none⟩ v' k (fun e9 => by have := (own_heap ho hk).1; have e8 : k = gh := e9; omega)
    ow := hrow h.ow (fun k hk => ((h.apart k).1 hk).1)
    orr := hrow h.orr (fun k hk h9 => (h.apart k).2 h9 hk)
    apart := fun k => ⟨fun hk => ⟨fun h9 => (by rcases hv' k h9 with h8 | h8; exact (fun k hk => ((h.apart k).1 hk).1) k hk h8; have := (own_heap h.ow hk).2.1; omega), fun h9 => ((fun k hk => ((h.apart k).1 hk).2) k hk h9)⟩, fun hk h9 => (by rcases hv' k hk with h8 | h8; exact (fun k hk => (h.apart k).2 hk) k h8 h9; have := (own_heap h.orr h9).2.1; omega)⟩
    hi := ⟨i1, i2, i3, by rw [hsz]; exact Nat.le_trans i4 hg.size⟩ }
theorem QG.setR (h : QG w0 P0 g gh pt B cB vw va vr ws nm rs t W) (ho : V.ownsRow P0 34 1 v' xs.length (xs.map nv)) (hg : W.grownBy V vr.ownBlock) (hat : v'.ownBlock = vr.ownBlock ∨ v'.ownBlock = some W.heap.size) (h64 : W64 xs) : QG w0 P0 g gh pt B cB vw va v' ws nm xs t (V.setCell ⟨gh, 2, none⟩ v') := by
  obtain ⟨n1, n2, n3⟩ := h.ne
  obtain ⟨i1, i2, i3, i4⟩ := h.hi
  have hlo : ∀ k, vr.ownBlock = some k → P0 ≤ k := fun k hk => (own_heap h.orr hk).1
  have hf : Fr (fun k => P0 ≤ k ∨ k = gh) W (V.setCell ⟨gh, 2, none⟩ v') := (Fr.of_grown hg fun k hk _ => .inl (hlo k hk)).same (Fr.setCell (fun k => P0 ≤ k ∨ k = gh) V (p := ⟨gh, 2, none⟩) (fun _ => .inr rfl) _)
  have hrow : ∀ {e' n : Nat} {u : Value} {cs : List Value}, W.ownsRow P0 e' 1 u n cs → (∀ k, u.ownBlock = some k → vr.ownBlock ≠ some k) → (V.setCell ⟨gh, 2, none⟩ v').ownsRow P0 e' 1 u n cs := fun hu hn => own_at hu fun k hk => (Below.heap_setCell V ⟨gh, 2, none⟩ v' k (fun e9 => by have := (own_heap hu hk).1; have e8 : k = gh := e9; omega)).trans (hg.block k (own_heap hu hk).2.1 (fun e9 => hn k hk e9.symm))
  have hv' : ∀ k, v'.ownBlock = some k → vr.ownBlock = some k ∨ k = W.heap.size := fun k hk => by
    rcases hat with h1 | h1
    · rw [h1] at hk; exact .inl hk
    · rw [h1] at hk; exact .inr (Option.some.inj hk).symm
  have hsz : (V.setCell ⟨gh, 2, none⟩ v').heap.size = V.heap.size := by simp [World.setCell]
  have hB : Blk V gh 29 #[vw, va, vr] := h.hb.grown hg (fun e9 => by have := hlo gh e9.symm; omega)
  exact { h with
    old := h.old.trans (hf.below h.old.size (fun k hk => by rcases hk with hk | rfl; exact Nat.le_trans h.lo.2.2.2 hk; exact h.lo.2.1))
    tape := h.tape.frm hf (by rintro (h9 | h9); omega; exact n1 h9) (fun b off e9 h9 => by have := h.bB b off e9; rcases h9 with h9 | h9; omega; exact this.2 h9)
    hb := hB.set_ 2 v'
    rg := hf.blk h.rg (by rintro (h9 | h9); omega; exact n3 h9.symm)
    orr := own_at ho fun k hk => Below.heap_setCell V ⟨gh, 2, none⟩ v' k (fun e9 => by have := (own_heap ho hk).1; have e8 : k = gh := e9; omega)
    ow := hrow h.ow (fun k hk => ((h.apart k).1 hk).2)
    oa := hrow h.oa (fun k hk => (h.apart k).2 hk)
    apart := fun k => ⟨fun hk => ⟨fun h9 => ((fun k hk => ((h.apart k).1 hk).1) k hk h9), fun h9 => (by rcases hv' k h9 with h8 | h8; exact (fun k hk => ((h.apart k).1 hk).2) k hk h8; have := (own_heap h.ow hk).2.1; omega)⟩, fun hk h9 => (by rcases hv' k h9 with h8 | h8; exact (fun k hk => (h.apart k).2 hk) k hk h8; have := (own_heap h.oa hk).2.1; omega)⟩
    hi := ⟨i1, i2, i3, by rw [hsz]; exact Nat.le_trans i4 hg.size⟩
    r64 := h64 }
set_option maxHeartbeats 1000000 in
theorem rcount_v (h : ReadAt pt B cB t W) : Calls Try.prog 49 #[.pointer (some ⟨pt, 0, none⟩)] W fun r w' => r = .returned (.tuple #[.int .i64 (((t.number false).1.1 % 65537 : Nat) : Int), .bool (decide ((t.number false).1.1 ≤ 65536))]) ∧ RAct W pt B cB (t.number false).2 w' := by
  have HN := Lib.hid (ruint_any h)
  have hlt := number_lt (t := t) false
  clear h
  generalize (t.number false).1.1 = x at *
  generalize (t.number false).2 = t2 at *
  have HX := Lib.hid (show (x : Int) % 65537 = ((x % 65537 : Nat) : Int) by omega)
  have HD := Lib.hid (show decide ((x : Int) ≤ 65536) = decide (x ≤ 65536) from decide_eq_decide.2 (by omega))
  go_enter Try.func49, Try.ntmps49
  go_wp2_with (go_at_call 50; refine HN.out.mono ?_; rintro r w' ⟨rfl, ha⟩)
  refine bodyPost_ret (v := .tuple #[.int .i64 ((x : Int) % 65537), .bool (decide ((x : Int) ≤ 65536))]) (by simp [results, Try.results49, go_sem]) rfl ?_
  rw [HX.out, HD.out]
  exact ⟨rfl, ha⟩
end
/-! ### the plain law -/
def fN (ok : Bool) (n : Nat) (t : TS) : List Nat × TS := if ok = true then numsP n t 0 else ([], t)
def fS (m : Int) (ok : Bool) (n : Nat) (t : TS) : List (List UInt8) × TS := if ok = true then strsP m n t 0 else ([], t)
theorem cntP_90 (t : TS) : (cntP t 90).2.2 = 90 := by unfold cntP; split <;> rfl
theorem cntP_ok {t : TS} (h : (t.number false).1.1 ≤ 65536) (e : Nat) : cntP t e = ((t.number false).1.1, (t.number false).2, e) := by unfold cntP; rw [if_neg (by omega)]
theorem cntP_big {t : TS} (h : ¬ (t.number false).1.1 ≤ 65536) (e : Nat) : (cntP t e).2.2 = 90 := by unfold cntP; rw [if_pos (by omega)]
def okT (t : TS) : Bool := decide ((t.number false).1.1 ≤ 65536)
def cT (t : TS) : Nat := (t.number false).1.1 % 65537
def nT (t : TS) : TS := (t.number false).2
/-- The document's Get: the same as the plain one. -/
theorem getQ_eq (l : List UInt8) {L1 L3 : List Nat} {L2 : List (List UInt8)} {T1 T2 T3 : TS} (h1 : fN (okT ⟨l, 0, 0, 0⟩) (cT ⟨l, 0, 0, 0⟩) (nT ⟨l, 0, 0, 0⟩) = (L1, T1)) (h2 : fS (l.length : Int) (okT T1) (cT T1) (nT T1) = (L2, T2)) (h3 : fN (okT T2) (cT T2) (nT T2) = (L3, T3)) :
    getP l = if okT ⟨l, 0, 0, 0⟩ = true ∧ okT T1 = true ∧ okT T2 = true ∧ T3.end_ = 0 then some (L1, L2, L3) else none := by
  generalize ht0 : (⟨l, 0, 0, 0⟩ : TS) = t0 at *
  have hm : ∀ t : TS, (t.number false).1.1 ≤ 65536 → cT t = (t.number false).1.1 := fun t h => by unfold cT; omega
  unfold getP
  rw [ht0]
  by_cases c1 : (t0.number false).1.1 ≤ 65536
  · have o1 : okT t0 = true := decide_eq_true c1
    rw [o1, fN, if_pos rfl, hm t0 c1] at h1
    simp only [cntP_ok c1]
    have h1' : numsP (t0.number false).1.1 (t0.number false).2 0 = (L1, T1) := h1
    rw [h1']
    by_cases c2 : (T1.number false).1.1 ≤ 65536
    · have o2 : okT T1 = true := decide_eq_true c2
      rw [o2, fS, if_pos rfl, hm T1 c2] at h2
      simp only [cntP_ok c2]
      have h2' : strsP (l.length : Int) (T1.number false).1.1 (T1.number false).2 0 = (L2, T2) := h2
      rw [h2']
      by_cases c3 : (T2.number false).1.1 ≤ 65536
      · have o3 : okT T2 = true := decide_eq_true c3
        rw [o3, fN, if_pos rfl, hm T2 c3] at h3
        simp only [cntP_ok c3]
        have h3' : numsP (T2.number false).1.1 (T2.number false).2 0 = (L3, T3) := h3
        rw [h3', o1, o2, o3]
        by_cases c4 : T3.end_ = 0
        · rw [if_pos ⟨by trivial, c4⟩, if_pos ⟨by trivial, by trivial, by trivial, c4⟩]
        · rw [if_neg (fun h9 => c4 h9.2), if_neg (fun h9 => c4 h9.2.2.2)]
      · have o3 : ¬ okT T2 = true := by unfold okT; simpa using c3
        rw [if_neg (fun h9 => by have h8 := h9.1; simp only [cntP_big c3] at h8; omega), if_neg (fun h9 => o3 h9.2.2.1)]
    · have o2 : ¬ okT T1 = true := by unfold okT; simpa using c2
      rw [if_neg (fun h9 => by have h8 := h9.1; simp only [cntP_big c2, cntP_90] at h8; omega), if_neg (fun h9 => o2 h9.2.1)]
  · have o1 : ¬ okT t0 = true := by unfold okT; simpa using c1
    rw [if_neg (fun h9 => by have h8 := h9.1; simp only [cntP_big c1, cntP_90] at h8; omega), if_neg (fun h9 => o1 h9.1)]
end
section
open Go.RowKit
set_option linter.unusedVariables false

theorem fN_zero (ok : Bool) (t : TS) : fN ok 0 t = ([], t) := by cases ok <;> rfl
theorem fS_zero (m : Int) (ok : Bool) (t : TS) : fS m ok 0 t = ([], t) := by cases ok <;> rfl
theorem fN_no {t : TS} (n : Nat) (h : ¬ t.fault = 0) : fN true n t = ([], t) := by unfold fN; rw [if_pos rfl, numsP_no n (fun h9 => h h9.1)]
theorem fS_no {t : TS} (m : Int) (n : Nat) (h : ¬ t.fault = 0) : fS m true n t = ([], t) := by unfold fS; rw [if_pos rfl, strsP_no m n (fun h9 => h h9.1)]
theorem fN_yes {t : TS} (n : Nat) (h : t.fault = 0) : fN true (n + 1) t = ((t.number false).1.1 :: (fN true n (t.number false).2).1, (fN true n (t.number false).2).2) := by unfold fN; rw [if_pos rfl, if_pos rfl, numsP_yes n ⟨h, rfl⟩]
theorem fS_yes {t : TS} (m : Int) (n : Nat) (h : t.fault = 0) : fS m true (n + 1) t = ((t.str m).1 :: (fS m true n (t.str m).2).1, (fS m true n (t.str m).2).2) := by unfold fS; rw [if_pos rfl, if_pos rfl, strsP_yes m n ⟨h, rfl⟩]
section
variable {W W' V : World}
set_option maxRecDepth 100000 in
set_option maxHeartbeats 16000000 in
theorem rget_v (A : Option Addr) (l : List UInt8) (n c : Nat) (W : World) (hl : l.length = n) (hn : n ≤ 140737488351232) (hr : Rd W A l) :
    Calls Try.prog 26 #[.slice A n c] W (GetEnds W (getP l)) := by
  have HOP : Hid (∀ V, Below W.heap.size W V → _) := Lib.hid fun V (hV : Below W.heap.size W V) => rnew_any A l n c V hl hn (hr.below hV)
  have HLN := Lib.hid hl
  obtain ⟨R, hR⟩ : ∃ R, getP l = R := ⟨_, rfl⟩
  rw [hR]
  have HR := Lib.hid hR
  clear hR hl hr
  obtain ⟨g, hg⟩ : ∃ g, W.heap.size = g := ⟨_, rfl⟩
  have HG := Lib.hid hg
  go_enter Try.func26, Try.ntmps26
  go_upto_region 1 with (fail)
  refine wp_world (fun V => Below W.heap.size W V ∧ Blk V g 29 #[.slice none 0 0, .slice none 0 0, .slice none 0 0] ∧ V.heap.size = g + 1) ⟨below_alloc _ _, by rw [← HG.out]; exact Blk.new _ _ _, by rw [← HG.out]; simp⟩ ?_
  rintro V0 ⟨hb, hk, hz⟩
  have HB0 := Lib.hid hb
  have HK0 := Lib.hid hk
  have HZ0 := Lib.hid hz
  clear hb hk hz hg
  go_upto_region 3 with (go_at_call 48; refine (HOP.out V0 HB0.out).mono ?_; rintro e w1 ⟨pt, B, cB, rfl, hT, hb1, hp1, hBB, hp2⟩)
  obtain ⟨gh, hgh⟩ : ∃ gh, w1.heap.size = gh := ⟨_, rfl⟩
  have hGI : QG W (gh + 1) g gh pt B cB (.slice none 0 0) (.slice none 0 0) (.slice none 0 0) [] [] [] ⟨l, 0, 0, 0⟩ (w1.alloc (.cells #[.slice none 0 0, .slice none 0 0, .slice none 0 0] 29)) := by
    have hz := HZ0.out
    have hgw := HG.out
    have hsz := hb1.size
    exact {
      old := below_step (below_step HB0.out hb1) (below_alloc _ _)
      tape := hT.keep (below_alloc _ _)
      hb := Blk.newAt hgh
      rg := (HK0.out.keep hb1).alloc _
      ow := ⟨rfl, .inl ⟨rfl, rfl⟩⟩
      oa := ⟨rfl, .inl ⟨rfl, rfl⟩⟩
      orr := ⟨rfl, .inl ⟨rfl, rfl⟩⟩
      lo := ⟨by omega, by omega, by omega, by omega⟩
      hi := ⟨by omega, by omega, by omega, by simp; omega⟩
      ne := ⟨by omega, by omega, by omega⟩
      bB := fun b off e9 => by have := hBB b off e9; exact ⟨by omega, by omega⟩
      apart := fun k => ⟨(fun (h9 : (none : Option Nat) = some k) => by cases h9), (fun (h9 : (none : Option Nat) = some k) => by cases h9)⟩
      w64 := fun x h9 => by cases h9
      r64 := fun x h9 => by cases h9 }
  rw [hgh]
  refine wp_world (fun V => QG W (gh + 1) g gh pt B cB (.slice none 0 0) (.slice none 0 0) (.slice none 0 0) [] [] [] ⟨l, 0, 0, 0⟩ V) hGI ?_
  clear hGI hgh hb1 hp1 hp2 hBB hT HB0 HK0 HZ0 HOP
  rintro V1 hI
  have HI1 := Lib.hid hI
  clear hI
  obtain ⟨q1, hq1⟩ : ∃ q, cT ⟨l, 0, 0, 0⟩ = q := ⟨_, rfl⟩
  obtain ⟨ok1, hok1⟩ : ∃ q, okT ⟨l, 0, 0, 0⟩ = q := ⟨_, rfl⟩
  obtain ⟨t1, ht1⟩ : ∃ q, nT ⟨l, 0, 0, 0⟩ = q := ⟨_, rfl⟩
  have hct1 : q1 ≤ 65536 := by rw [← hq1]; unfold cT; omega
  have HQ1 := Lib.hid (And.intro hq1 (And.intro hok1 ht1))
  have HCV := Lib.hid (show Calls Try.prog 49 #[.pointer (some ⟨pt, 0, none⟩)] V1 fun r w' => r = .returned (.tuple #[.int .i64 (q1 : Int), .bool ok1]) ∧ RAct V1 pt B cB t1 w' from by rw [← hq1, ← hok1, ← ht1]; exact rcount_v HI1.out.tape)
  clear hq1 hok1 ht1
  go_upto_block 0 with (go_at_call 49; refine HCV.out.mono ?_; rintro e w2 ⟨rfl, ha⟩; have HI := Lib.hid (HI1.out.ract ha); clear ha)
  obtain ⟨L1, T1, hL1⟩ : ∃ L T, fN ok1 q1 t1 = (L, T) := ⟨_, _, rfl⟩
  have HL1 := Lib.hid hL1
  clear hL1 HCV HI1
  go_cut [8] (fun _ wx => ∃ vz, QG W (gh + 1) g gh pt B cB vz (.slice none 0 0) (.slice none 0 0) L1 [] [] T1 wx)
  case first =>
    go_wp2_with (fail)
    go_loopw [8] (fun i wr => ∃ (j : Nat) (t : TS) (acc : List Nat) (vz : Value), j ≤ q1 ∧ i = .int .i64 j ∧ acc.length = j ∧ acc ++ (fN ok1 (q1 - j) t).1 = L1 ∧ (fN ok1 (q1 - j) t).2 = T1 ∧ QG W (gh + 1) g gh pt B cB vz (.slice none 0 0) (.slice none 0 0) acc [] [] t wr) (fun i _ => q1 - (intOf i).toNat)
    case atStart => exact ⟨0, t1, [], _, Nat.zero_le _, rfl, rfl, (by rw [Nat.sub_zero, HL1.out]; first | done | rfl), (by rw [Nat.sub_zero, HL1.out]; first | done | rfl), HI.out⟩
    case round =>
      obtain ⟨j, t, acc, vz, hj, rfl, hal, hacc, htt, hI⟩ := hrel
      have HIr := Lib.hid hI
      have hal9 := hal
      clear hal
      have HAL := Lib.hid hal9
      clear hal9
      have e2 := hI.tape.obj.cell 2
      clear hI HI
      by_cases hlt : j < q1
      rotate_left
      · obtain rfl : q1 = j := by omega
        rw [Nat.sub_self, fN_zero] at hacc htt
        have hd1 : decide (q1 < q1) = false := by simp
        have HA := Lib.hid hacc
        have HT := Lib.hid htt
        clear hacc htt
        go_wp2_with (fail)
        go_meet
        exact ⟨vz, by have h9 := HIr.out; rw [← HA.out, ← HT.out, List.append_nil]; exact h9⟩
      have hd1 : decide (j < q1) = true := by simp; omega
      cases ok1 with
      | false =>
        have HA := Lib.hid (show acc = L1 by have h9 := hacc; simpa [fN] using h9)
        have HT := Lib.hid (show t = T1 from htt)
        clear hacc htt
        go_wp2_with (fail)
        go_meet
        exact ⟨vz, by have h9 := HIr.out; rw [← HA.out, ← HT.out]; exact h9⟩
      | true =>
        by_cases hf : t.fault = 0
        rotate_left
        · rw [fN_no _ hf] at hacc htt
          have d2 : ((t.fault : Int) == 0) = false := by simpa using hf
          have HA := Lib.hid hacc
          have HT := Lib.hid htt
          clear hacc htt hf
          go_wp2_with (fail)
          go_meet
          exact ⟨vz, by have h9 := HIr.out; rw [← HA.out, ← HT.out, List.append_nil]; exact h9⟩
        obtain ⟨m, hm⟩ : ∃ m, q1 - j = m + 1 := ⟨q1 - j - 1, by omega⟩
        have hm2 : q1 - (j + 1) = m := by omega
        rw [hm, fN_yes _ hf] at hacc htt
        have d2 : ((t.fault : Int) == 0) = true := by simpa using hf
        have hlt64 := number_lt (t := t) false
        obtain ⟨x, tn, hxn⟩ : ∃ x y, (t.number false).1.1 = x ∧ (t.number false).2 = y := ⟨_, _, rfl, rfl⟩
        rw [hxn.1, hxn.2] at hacc htt
        rw [hxn.1] at hlt64
        have HA := Lib.hid (show (acc ++ [x]) ++ (fN true (q1 - (j + 1)) tn).1 = L1 by rw [hm2, ← hacc]; simp)
        have HT := Lib.hid (show (fN true (q1 - (j + 1)) tn).2 = T1 by rw [hm2]; exact htt)
        have HXN := Lib.hid hxn
        clear hacc htt hxn hf hm hm2
        go_upto_region 7 with (fail)
        clear e2
        refine wp_region_W 7 (fun V => V.cell? ⟨gh, 0, none⟩ = some vz) (by kernel_rfl) ?_ (fun hS0 => ?_)
        · exact HIr.out.hb.cell 0
        (refine wpAnyW_take (i := 0) (v := ?_) rfl (by kernel_rfl) (by kernel_rfl) (by kernel_rfl) (by kernel_rfl) (fun _ _ _ h => h) (Or.inl ⟨by kernel_rfl, ?_⟩) (by assumption) ?_; rotate_left; focus (intro V9 hS9; go_simp; (try (with_reducible rfl)); done))
        try simp only [Act.put, List.getElem_toArray, List.getElem_cons_zero, List.setIfInBounds_toArray, List.set_cons_succ, List.set_cons_zero]
        (refine wpAnyW_take (i := 1) (v := ?_) rfl (by kernel_rfl) (by kernel_rfl) (by kernel_rfl) (by kernel_rfl) (fun _ _ _ h => h) (Or.inl ⟨by kernel_rfl, ?_⟩) (by assumption) ?_; rotate_left; focus (intro V9 hS9; have g0 := hS9; go_simp; (try (with_reducible rfl)); done))
        try simp only [Act.put, List.getElem_toArray, List.getElem_cons_succ, List.getElem_cons_zero, List.setIfInBounds_toArray, List.set_cons_succ, List.set_cons_zero]
        (refine wpAnyW_take (i := 2) (v := ?_) rfl (by kernel_rfl) (by kernel_rfl) (by kernel_rfl) (by kernel_rfl) (fun _ _ _ h => h) (Or.inl ⟨by kernel_rfl, ?_⟩) (by assumption) ?_; rotate_left; focus (intro V9 hS9; go_simp; (try (with_reducible rfl)); done))
        try simp only [Act.put, List.getElem_toArray, List.getElem_cons_succ, List.getElem_cons_zero, List.setIfInBounds_toArray, List.set_cons_succ, List.set_cons_zero]
        refine wpAnyW_ready (rs := [3]) (by kernel_rfl) (by simp) ?_
        refine AllReadyW.cons rfl (fun K hK => ?_) AllReadyW.nil
        go_simp
        have hI5 := HIr.out.keep (Below.refl _ _).drew
        refine (ruint_any hI5.tape).mono ?_
        rintro r w6 ⟨rfl, hA⟩
        have hI6 := hI5.ract hA
        rw [HXN.out.2] at hI6
        rw [HXN.out.1]
        refine hK.out _ _ (hI6.hb.cell 0) (fun _ => ?_)
        clear hK K
        try simp only [Act.put, List.getElem_toArray, List.getElem_cons_succ, List.getElem_cons_zero, List.setIfInBounds_toArray, List.set_cons_succ, List.set_cons_zero]
        refine wpAnyW_ready (rs := [4]) (by kernel_rfl) (by simp) ?_
        refine AllReadyW.cons rfl (fun K hK => ?_) AllReadyW.nil
        go_simp
        have hIA := hI6.keep (below_alloc w6 (.cells #[.int .u64 (x : Int)] 34))
        refine hK.out _ _ (hIA.hb.cell 0) (fun _ => ?_)
        clear hK K
        try simp only [Act.put, List.getElem_toArray, List.getElem_cons_succ, List.getElem_cons_zero, List.setIfInBounds_toArray, List.set_cons_succ, List.set_cons_zero]
        refine wpAnyW_ready (rs := [5]) (by kernel_rfl) (by simp) ?_
        refine AllReadyW.cons rfl (fun K hK => ?_) AllReadyW.nil
        have hacl : acc.length ≤ 65536 := by rw [HAL.out]; omega
        refine step_appO uintsT (by kernel_rfl) (.tmp 37) (.tmp 40) rfl (gh + 1) acc.length (acc.map nv) vz hIA.ow (some ⟨w6.heap.size, 0, none⟩) 1 1 [nv x] (by rfl) (by rfl) rfl (blk_cs (Blk.new w6 _ _)) (nv_one [x]) (by unfold maxLen; omega) (by omega) hIA.hi.2.2.2 ?_
        intro v7 w7 ho7 hg7 hat7
        have hlo : ∀ q, vz.ownBlock = some q → gh + 1 ≤ q := fun q hq => (own_heap hIA.ow hq).1
        have hO7 := hIA.hb.grown hg7 (fun e9 => by have := hlo gh e9.symm; omega)
        refine hK.out _ _ (hO7.cell 0) (fun _ => ?_)
        clear hK K
        try simp only [Act.put, List.getElem_toArray, List.getElem_cons_succ, List.getElem_cons_zero, List.setIfInBounds_toArray, List.set_cons_succ, List.set_cons_zero]
        obtain ⟨A7, c7, rfl⟩ := own_sl ho7
        (refine wpAnyW_take (i := 6) (v := ?_) rfl (by kernel_rfl) (by kernel_rfl) (by kernel_rfl) (by kernel_rfl) (fun _ _ _ h => h) (Or.inl ⟨by kernel_rfl, ?_⟩) (by assumption) ?_; rotate_left; focus (intro V9 hS9; go_simp; (try (with_reducible rfl)); done))
        try simp only [Act.put, List.getElem_toArray, List.getElem_cons_succ, List.getElem_cons_zero, List.setIfInBounds_toArray, List.set_cons_succ, List.set_cons_zero]
        refine wpAnyW_ready (rs := [7]) (by kernel_rfl) (by simp) ?_
        refine AllReadyW.consE rfl (by kernel_rfl) (fun K hK => ?_) AllReadyW.nil
        have hfz := hO7.frozen 0
        have gc := hO7.cell 0
        go_simp
        refine hK.out _ _ ?_
        clear hK K
        refine wpAnyW_done (by kernel_rfl) ?_ _
        have hEND := Lib.hid (hIA.setW (xs := acc ++ [x]) (by simpa using ho7) hg7 hat7 (fun y hy => by rcases List.mem_append.1 hy with h9 | h9; exact hIA.w64 y h9; rw [List.mem_singleton.1 h9]; exact hlt64))
        clear hfz gc hO7 ho7 hg7 hat7 hIA hI6 hI5 hA hS0 hlo
        go_wp2
        go_roundw
        case rel => exact ⟨j + 1, tn, acc ++ [x], _, by omega, by go_num, by rw [List.length_append, HAL.out]; rfl, HA.out, HT.out, hEND.out⟩
        case measure => simp [intOf]; omega
  case rest =>
    obtain ⟨vw, hI⟩ := hcut
    have HI2 := Lib.hid hI
    clear hI HI
    obtain ⟨q2, hq2⟩ : ∃ q, cT T1 = q := ⟨_, rfl⟩
    obtain ⟨ok2, hok2⟩ : ∃ q, okT T1 = q := ⟨_, rfl⟩
    obtain ⟨t2, ht2⟩ : ∃ q, nT T1 = q := ⟨_, rfl⟩
    have hct2 : q2 ≤ 65536 := by rw [← hq2]; unfold cT; omega
    have HQ2 := Lib.hid (And.intro hq2 (And.intro hok2 ht2))
    have HCV := Lib.hid (show Calls Try.prog 49 #[.pointer (some ⟨pt, 0, none⟩)] wc fun r w' => r = .returned (.tuple #[.int .i64 (q2 : Int), .bool ok2]) ∧ RAct wc pt B cB t2 w' from by rw [← hq2, ← hok2, ← ht2]; exact rcount_v HI2.out.tape)
    clear hq2 hok2 ht2
    go_upto_block 2 with (go_at_call 49; refine HCV.out.mono ?_; rintro e w2 ⟨rfl, ha⟩; have HI := Lib.hid (HI2.out.ract ha); clear ha)
    obtain ⟨L2, T2, hL2⟩ : ∃ L T, fS (n : Int) ok2 q2 t2 = (L, T) := ⟨_, _, rfl⟩
    have HL2 := Lib.hid hL2
    clear hL2 HCV HI2
    go_cut [10] (fun _ wx => ∃ vz, QG W (gh + 1) g gh pt B cB vw vz (.slice none 0 0) L1 L2 [] T2 wx)
    case first =>
      go_wp2_with (fail)
      go_loopw [10] (fun i wr => ∃ (j : Nat) (t : TS) (acc : List (List UInt8)) (vz : Value), j ≤ q2 ∧ i = .int .i64 j ∧ acc.length = j ∧ acc ++ (fS (n : Int) ok2 (q2 - j) t).1 = L2 ∧ (fS (n : Int) ok2 (q2 - j) t).2 = T2 ∧ QG W (gh + 1) g gh pt B cB vw vz (.slice none 0 0) L1 acc [] t wr) (fun i _ => q2 - (intOf i).toNat)
      case atStart => exact ⟨0, t2, [], _, Nat.zero_le _, rfl, rfl, (by rw [Nat.sub_zero, HL2.out]; first | done | rfl), (by rw [Nat.sub_zero, HL2.out]; first | done | rfl), HI.out⟩
      case round =>
        obtain ⟨j, t, acc, vz, hj, rfl, hal, hacc, htt, hI⟩ := hrel
        have HIr := Lib.hid hI
        have hal9 := hal
        clear hal
        have HAL := Lib.hid hal9
        clear hal9
        have e2 := hI.tape.obj.cell 2
        clear hI HI
        by_cases hlt : j < q2
        rotate_left
        · obtain rfl : q2 = j := by omega
          rw [Nat.sub_self, fS_zero] at hacc htt
          have hd1 : decide (q2 < q2) = false := by simp
          have HA := Lib.hid hacc
          have HT := Lib.hid htt
          clear hacc htt
          go_wp2_with (fail)
          go_meet
          exact ⟨vz, by have h9 := HIr.out; rw [← HA.out, ← HT.out, List.append_nil]; exact h9⟩
        have hd1 : decide (j < q2) = true := by simp; omega
        cases ok2 with
        | false =>
          have HA := Lib.hid (show acc = L2 by have h9 := hacc; simpa [fS] using h9)
          have HT := Lib.hid (show t = T2 from htt)
          clear hacc htt
          go_wp2_with (fail)
          go_meet
          exact ⟨vz, by have h9 := HIr.out; rw [← HA.out, ← HT.out]; exact h9⟩
        | true =>
          by_cases hf : t.fault = 0
          rotate_left
          · rw [fS_no (n : Int) _ hf] at hacc htt
            have d2 : ((t.fault : Int) == 0) = false := by simpa using hf
            have HA := Lib.hid hacc
            have HT := Lib.hid htt
            clear hacc htt hf
            go_wp2_with (fail)
            go_meet
            exact ⟨vz, by have h9 := HIr.out; rw [← HA.out, ← HT.out, List.append_nil]; exact h9⟩
          obtain ⟨m, hm⟩ : ∃ m, q2 - j = m + 1 := ⟨q2 - j - 1, by omega⟩
          have hm2 : q2 - (j + 1) = m := by omega
          rw [hm, fS_yes (n : Int) _ hf] at hacc htt
          have d2 : ((t.fault : Int) == 0) = true := by simpa using hf
          obtain ⟨x, tn, hxn⟩ : ∃ x y, (t.str (n : Int)).1 = x ∧ (t.str (n : Int)).2 = y := ⟨_, _, rfl, rfl⟩
          rw [hxn.1, hxn.2] at hacc htt
          have HA := Lib.hid (show (acc ++ [x]) ++ (fS (n : Int) true (q2 - (j + 1)) tn).1 = L2 by rw [hm2, ← hacc]; simp)
          have HT := Lib.hid (show (fS (n : Int) true (q2 - (j + 1)) tn).2 = T2 by rw [hm2]; exact htt)
          have HXN := Lib.hid hxn
          clear hacc htt hxn hf hm hm2
          go_upto_region 12 with (fail)
          clear e2
          refine wp_region_W 9 (fun V => V.cell? ⟨gh, 1, none⟩ = some vz) (by kernel_rfl) ?_ (fun hS0 => ?_)
          · exact HIr.out.hb.cell 1
          (refine wpAnyW_take (i := 0) (v := ?_) rfl (by kernel_rfl) (by kernel_rfl) (by kernel_rfl) (by kernel_rfl) (fun _ _ _ h => h) (Or.inl ⟨by kernel_rfl, ?_⟩) (by assumption) ?_; rotate_left; focus (intro V9 hS9; go_simp; (try (with_reducible rfl)); done))
          try simp only [Act.put, List.getElem_toArray, List.getElem_cons_zero, List.setIfInBounds_toArray, List.set_cons_succ, List.set_cons_zero]
          (refine wpAnyW_take (i := 1) (v := ?_) rfl (by kernel_rfl) (by kernel_rfl) (by kernel_rfl) (by kernel_rfl) (fun _ _ _ h => h) (Or.inl ⟨by kernel_rfl, ?_⟩) (by assumption) ?_; rotate_left; focus (intro V9 hS9; have g0 := hS9; go_simp; (try (with_reducible rfl)); done))
          try simp only [Act.put, List.getElem_toArray, List.getElem_cons_succ, List.getElem_cons_zero, List.setIfInBounds_toArray, List.set_cons_succ, List.set_cons_zero]
          (refine wpAnyW_take (i := 2) (v := ?_) rfl (by kernel_rfl) (by kernel_rfl) (by kernel_rfl) (by kernel_rfl) (fun _ _ _ h => h) (Or.inl ⟨by kernel_rfl, ?_⟩) (by assumption) ?_; rotate_left; focus (intro V9 hS9; go_simp; (try (with_reducible rfl)); done))
          try simp only [Act.put, List.getElem_toArray, List.getElem_cons_succ, List.getElem_cons_zero, List.setIfInBounds_toArray, List.set_cons_succ, List.set_cons_zero]
          (refine wpAnyW_take (i := 3) (v := ?_) rfl (by kernel_rfl) (by kernel_rfl) (by kernel_rfl) (by kernel_rfl) (fun _ _ _ h => h) (Or.inl ⟨by kernel_rfl, ?_⟩) (by assumption) ?_; rotate_left; focus (intro V9 hS9; go_simp; (try (with_reducible rfl)); done))
          try simp only [Act.put, List.getElem_toArray, List.getElem_cons_succ, List.getElem_cons_zero, List.setIfInBounds_toArray, List.set_cons_succ, List.set_cons_zero]
          (refine wpAnyW_take (i := 4) (v := ?_) rfl (by kernel_rfl) (by kernel_rfl) (by kernel_rfl) (by kernel_rfl) (fun _ _ _ h => h) (Or.inl ⟨by kernel_rfl, ?_⟩) (by assumption) ?_; rotate_left; focus (intro V9 hS9; go_simp; (try (with_reducible rfl)); done))
          try simp only [Act.put, List.getElem_toArray, List.getElem_cons_succ, List.getElem_cons_zero, List.setIfInBounds_toArray, List.set_cons_succ, List.set_cons_zero]
          refine wpAnyW_ready (rs := [5]) (by kernel_rfl) (by simp) ?_
          refine AllReadyW.cons rfl (fun K hK => ?_) AllReadyW.nil
          go_simp
          have hI5 := HIr.out.keep (Below.refl _ _).drew
          refine (rtext_any hI5.tape (n : Int) (by omega)).mono ?_
          rintro r w6 ⟨rfl, hA⟩
          have hI6 := hI5.ract hA
          rw [HXN.out.2] at hI6
          rw [HXN.out.1]
          refine hK.out _ _ (hI6.hb.cell 1) (fun _ => ?_)
          clear hK K
          try simp only [Act.put, List.getElem_toArray, List.getElem_cons_succ, List.getElem_cons_zero, List.setIfInBounds_toArray, List.set_cons_succ, List.set_cons_zero]
          refine wpAnyW_ready (rs := [6]) (by kernel_rfl) (by simp) ?_
          refine AllReadyW.cons rfl (fun K hK => ?_) AllReadyW.nil
          go_simp
          have hIA := hI6.keep (below_alloc w6 (.cells #[.string ⟨x.toArray⟩] 9))
          refine hK.out _ _ (hIA.hb.cell 1) (fun _ => ?_)
          clear hK K
          try simp only [Act.put, List.getElem_toArray, List.getElem_cons_succ, List.getElem_cons_zero, List.setIfInBounds_toArray, List.set_cons_succ, List.set_cons_zero]
          refine wpAnyW_ready (rs := [7]) (by kernel_rfl) (by simp) ?_
          refine AllReadyW.cons rfl (fun K hK => ?_) AllReadyW.nil
          have hacl : acc.length ≤ 65536 := by rw [HAL.out]; omega
          refine step_appO htextsT (by kernel_rfl) (.tmp 64) (.tmp 69) rfl (gh + 1) acc.length (acc.map hv) vz hIA.oa (some ⟨w6.heap.size, 0, none⟩) 1 1 [hv x] (by rfl) (by rfl) rfl (blk_cs (Blk.new w6 _ _)) (hv_one [x]) (by unfold maxLen; omega) (by omega) hIA.hi.2.2.2 ?_
          intro v7 w7 ho7 hg7 hat7
          have hlo : ∀ q, vz.ownBlock = some q → gh + 1 ≤ q := fun q hq => (own_heap hIA.oa hq).1
          have hO7 := hIA.hb.grown hg7 (fun e9 => by have := hlo gh e9.symm; omega)
          refine hK.out _ _ (hO7.cell 1) (fun _ => ?_)
          clear hK K
          try simp only [Act.put, List.getElem_toArray, List.getElem_cons_succ, List.getElem_cons_zero, List.setIfInBounds_toArray, List.set_cons_succ, List.set_cons_zero]
          obtain ⟨A7, c7, rfl⟩ := own_sl ho7
          (refine wpAnyW_take (i := 8) (v := ?_) rfl (by kernel_rfl) (by kernel_rfl) (by kernel_rfl) (by kernel_rfl) (fun _ _ _ h => h) (Or.inl ⟨by kernel_rfl, ?_⟩) (by assumption) ?_; rotate_left; focus (intro V9 hS9; go_simp; (try (with_reducible rfl)); done))
          try simp only [Act.put, List.getElem_toArray, List.getElem_cons_succ, List.getElem_cons_zero, List.setIfInBounds_toArray, List.set_cons_succ, List.set_cons_zero]
          refine wpAnyW_ready (rs := [9]) (by kernel_rfl) (by simp) ?_
          refine AllReadyW.consE rfl (by kernel_rfl) (fun K hK => ?_) AllReadyW.nil
          have hfz := hO7.frozen 1
          have gc := hO7.cell 1
          go_simp
          refine hK.out _ _ ?_
          clear hK K
          refine wpAnyW_done (by kernel_rfl) ?_ _
          have hEND := Lib.hid (hIA.setA (ss := acc ++ [x]) (by simpa using ho7) hg7 hat7)
          clear hfz gc hO7 ho7 hg7 hat7 hIA hI6 hI5 hA hS0 hlo
          go_wp2
          go_roundw
          case rel => exact ⟨j + 1, tn, acc ++ [x], _, by omega, by go_num, by rw [List.length_append, HAL.out]; rfl, HA.out, HT.out, hEND.out⟩
          case measure => simp [intOf]; omega
    case rest =>
      obtain ⟨va, hI⟩ := hcut
      have HI3 := Lib.hid hI
      clear hI HI
      obtain ⟨q3, hq3⟩ : ∃ q, cT T2 = q := ⟨_, rfl⟩
      obtain ⟨ok3, hok3⟩ : ∃ q, okT T2 = q := ⟨_, rfl⟩
      obtain ⟨t3, ht3⟩ : ∃ q, nT T2 = q := ⟨_, rfl⟩
      have hct3 : q3 ≤ 65536 := by rw [← hq3]; unfold cT; omega
      have HQ3 := Lib.hid (And.intro hq3 (And.intro hok3 ht3))
      have HCV := Lib.hid (show Calls Try.prog 49 #[.pointer (some ⟨pt, 0, none⟩)] wc fun r w' => r = .returned (.tuple #[.int .i64 (q3 : Int), .bool ok3]) ∧ RAct wc pt B cB t3 w' from by rw [← hq3, ← hok3, ← ht3]; exact rcount_v HI3.out.tape)
      clear hq3 hok3 ht3
      go_upto_block 4 with (go_at_call 49; refine HCV.out.mono ?_; rintro e w2 ⟨rfl, ha⟩; have HI := Lib.hid (HI3.out.ract ha); clear ha)
      obtain ⟨L3, T3, hL3⟩ : ∃ L T, fN ok3 q3 t3 = (L, T) := ⟨_, _, rfl⟩
      have HL3 := Lib.hid hL3
      clear hL3 HCV HI3
      go_cut [12] (fun _ wx => ∃ vz, QG W (gh + 1) g gh pt B cB vw va vz L1 L2 L3 T3 wx)
      case first =>
        go_wp2_with (fail)
        go_loopw [12] (fun i wr => ∃ (j : Nat) (t : TS) (acc : List Nat) (vz : Value), j ≤ q3 ∧ i = .int .i64 j ∧ acc.length = j ∧ acc ++ (fN ok3 (q3 - j) t).1 = L3 ∧ (fN ok3 (q3 - j) t).2 = T3 ∧ QG W (gh + 1) g gh pt B cB vw va vz L1 L2 acc t wr) (fun i _ => q3 - (intOf i).toNat)
        case atStart => exact ⟨0, t3, [], _, Nat.zero_le _, rfl, rfl, (by rw [Nat.sub_zero, HL3.out]; first | done | rfl), (by rw [Nat.sub_zero, HL3.out]; first | done | rfl), HI.out⟩
        case round =>
          obtain ⟨j, t, acc, vz, hj, rfl, hal, hacc, htt, hI⟩ := hrel
          have HIr := Lib.hid hI
          have hal9 := hal
          clear hal
          have HAL := Lib.hid hal9
          clear hal9
          have e2 := hI.tape.obj.cell 2
          clear hI HI
          by_cases hlt : j < q3
          rotate_left
          · obtain rfl : q3 = j := by omega
            rw [Nat.sub_self, fN_zero] at hacc htt
            have hd1 : decide (q3 < q3) = false := by simp
            have HA := Lib.hid hacc
            have HT := Lib.hid htt
            clear hacc htt
            go_wp2_with (fail)
            go_meet
            exact ⟨vz, by have h9 := HIr.out; rw [← HA.out, ← HT.out, List.append_nil]; exact h9⟩
          have hd1 : decide (j < q3) = true := by simp; omega
          cases ok3 with
          | false =>
            have HA := Lib.hid (show acc = L3 by have h9 := hacc; simpa [fN] using h9)
            have HT := Lib.hid (show t = T3 from htt)
            clear hacc htt
            go_wp2_with (fail)
            go_meet
            exact ⟨vz, by have h9 := HIr.out; rw [← HA.out, ← HT.out]; exact h9⟩
          | true =>
            by_cases hf : t.fault = 0
            rotate_left
            · rw [fN_no _ hf] at hacc htt
              have d2 : ((t.fault : Int) == 0) = false := by simpa using hf
              have HA := Lib.hid hacc
              have HT := Lib.hid htt
              clear hacc htt hf
              go_wp2_with (fail)
              go_meet
              exact ⟨vz, by have h9 := HIr.out; rw [← HA.out, ← HT.out, List.append_nil]; exact h9⟩
            obtain ⟨m, hm⟩ : ∃ m, q3 - j = m + 1 := ⟨q3 - j - 1, by omega⟩
            have hm2 : q3 - (j + 1) = m := by omega
            rw [hm, fN_yes _ hf] at hacc htt
            have d2 : ((t.fault : Int) == 0) = true := by simpa using hf
            have hlt64 := number_lt (t := t) false
            obtain ⟨x, tn, hxn⟩ : ∃ x y, (t.number false).1.1 = x ∧ (t.number false).2 = y := ⟨_, _, rfl, rfl⟩
            rw [hxn.1, hxn.2] at hacc htt
            rw [hxn.1] at hlt64
            have HA := Lib.hid (show (acc ++ [x]) ++ (fN true (q3 - (j + 1)) tn).1 = L3 by rw [hm2, ← hacc]; simp)
            have HT := Lib.hid (show (fN true (q3 - (j + 1)) tn).2 = T3 by rw [hm2]; exact htt)
            have HXN := Lib.hid hxn
            clear hacc htt hxn hf hm hm2
            go_upto_region 17 with (fail)
            clear e2
            refine wp_region_W 7 (fun V => V.cell? ⟨gh, 2, none⟩ = some vz) (by kernel_rfl) ?_ (fun hS0 => ?_)
            · exact HIr.out.hb.cell 2
            (refine wpAnyW_take (i := 0) (v := ?_) rfl (by kernel_rfl) (by kernel_rfl) (by kernel_rfl) (by kernel_rfl) (fun _ _ _ h => h) (Or.inl ⟨by kernel_rfl, ?_⟩) (by assumption) ?_; rotate_left; focus (intro V9 hS9; go_simp; (try (with_reducible rfl)); done))
            try simp only [Act.put, List.getElem_toArray, List.getElem_cons_zero, List.setIfInBounds_toArray, List.set_cons_succ, List.set_cons_zero]
            (refine wpAnyW_take (i := 1) (v := ?_) rfl (by kernel_rfl) (by kernel_rfl) (by kernel_rfl) (by kernel_rfl) (fun _ _ _ h => h) (Or.inl ⟨by kernel_rfl, ?_⟩) (by assumption) ?_; rotate_left; focus (intro V9 hS9; have g0 := hS9; go_simp; (try (with_reducible rfl)); done))
            try simp only [Act.put, List.getElem_toArray, List.getElem_cons_succ, List.getElem_cons_zero, List.setIfInBounds_toArray, List.set_cons_succ, List.set_cons_zero]
            (refine wpAnyW_take (i := 2) (v := ?_) rfl (by kernel_rfl) (by kernel_rfl) (by kernel_rfl) (by kernel_rfl) (fun _ _ _ h => h) (Or.inl ⟨by kernel_rfl, ?_⟩) (by assumption) ?_; rotate_left; focus (intro V9 hS9; go_simp; (try (with_reducible rfl)); done))
            try simp only [Act.put, List.getElem_toArray, List.getElem_cons_succ, List.getElem_cons_zero, List.setIfInBounds_toArray, List.set_cons_succ, List.set_cons_zero]
            refine wpAnyW_ready (rs := [3]) (by kernel_rfl) (by simp) ?_
            refine AllReadyW.cons rfl (fun K hK => ?_) AllReadyW.nil
            go_simp
            have hI5 := HIr.out.keep (Below.refl _ _).drew
            refine (ruint_any hI5.tape).mono ?_
            rintro r w6 ⟨rfl, hA⟩
            have hI6 := hI5.ract hA
            rw [HXN.out.2] at hI6
            rw [HXN.out.1]
            refine hK.out _ _ (hI6.hb.cell 2) (fun _ => ?_)
            clear hK K
            try simp only [Act.put, List.getElem_toArray, List.getElem_cons_succ, List.getElem_cons_zero, List.setIfInBounds_toArray, List.set_cons_succ, List.set_cons_zero]
            refine wpAnyW_ready (rs := [4]) (by kernel_rfl) (by simp) ?_
            refine AllReadyW.cons rfl (fun K hK => ?_) AllReadyW.nil
            go_simp
            have hIA := hI6.keep (below_alloc w6 (.cells #[.int .u64 (x : Int)] 34))
            refine hK.out _ _ (hIA.hb.cell 2) (fun _ => ?_)
            clear hK K
            try simp only [Act.put, List.getElem_toArray, List.getElem_cons_succ, List.getElem_cons_zero, List.setIfInBounds_toArray, List.set_cons_succ, List.set_cons_zero]
            refine wpAnyW_ready (rs := [5]) (by kernel_rfl) (by simp) ?_
            refine AllReadyW.cons rfl (fun K hK => ?_) AllReadyW.nil
            have hacl : acc.length ≤ 65536 := by rw [HAL.out]; omega
            refine step_appO uintsT (by kernel_rfl) (.tmp 93) (.tmp 96) rfl (gh + 1) acc.length (acc.map nv) vz hIA.orr (some ⟨w6.heap.size, 0, none⟩) 1 1 [nv x] (by rfl) (by rfl) rfl (blk_cs (Blk.new w6 _ _)) (nv_one [x]) (by unfold maxLen; omega) (by omega) hIA.hi.2.2.2 ?_
            intro v7 w7 ho7 hg7 hat7
            have hlo : ∀ q, vz.ownBlock = some q → gh + 1 ≤ q := fun q hq => (own_heap hIA.orr hq).1
            have hO7 := hIA.hb.grown hg7 (fun e9 => by have := hlo gh e9.symm; omega)
            refine hK.out _ _ (hO7.cell 2) (fun _ => ?_)
            clear hK K
            try simp only [Act.put, List.getElem_toArray, List.getElem_cons_succ, List.getElem_cons_zero, List.setIfInBounds_toArray, List.set_cons_succ, List.set_cons_zero]
            obtain ⟨A7, c7, rfl⟩ := own_sl ho7
            (refine wpAnyW_take (i := 6) (v := ?_) rfl (by kernel_rfl) (by kernel_rfl) (by kernel_rfl) (by kernel_rfl) (fun _ _ _ h => h) (Or.inl ⟨by kernel_rfl, ?_⟩) (by assumption) ?_; rotate_left; focus (intro V9 hS9; go_simp; (try (with_reducible rfl)); done))
            try simp only [Act.put, List.getElem_toArray, List.getElem_cons_succ, List.getElem_cons_zero, List.setIfInBounds_toArray, List.set_cons_succ, List.set_cons_zero]
            refine wpAnyW_ready (rs := [7]) (by kernel_rfl) (by simp) ?_
            refine AllReadyW.consE rfl (by kernel_rfl) (fun K hK => ?_) AllReadyW.nil
            have hfz := hO7.frozen 2
            have gc := hO7.cell 2
            go_simp
            refine hK.out _ _ ?_
            clear hK K
            refine wpAnyW_done (by kernel_rfl) ?_ _
            have hEND := Lib.hid (hIA.setR (xs := acc ++ [x]) (by simpa using ho7) hg7 hat7 (fun y hy => by rcases List.mem_append.1 hy with h9 | h9; exact hIA.r64 y h9; rw [List.mem_singleton.1 h9]; exact hlt64))
            clear hfz gc hO7 ho7 hg7 hat7 hIA hI6 hI5 hA hS0 hlo
            go_wp2
            go_roundw
            case rel => exact ⟨j + 1, tn, acc ++ [x], _, by omega, by go_num, by rw [List.length_append, HAL.out]; rfl, HA.out, HT.out, hEND.out⟩
            case measure => simp [intOf]; omega
      case rest =>
        obtain ⟨vr, hI⟩ := hcut
        have HI4 := Lib.hid hI
        clear hI HI
        have hRR : R = if ok1 = true ∧ ok2 = true ∧ ok3 = true ∧ T3.end_ = 0 then some (L1, L2, L3) else none := by
          obtain ⟨a1, b1, c1⟩ := HQ1.out
          obtain ⟨a2, b2, c2⟩ := HQ2.out
          obtain ⟨a3, b3, c3⟩ := HQ3.out
          have h1 := HL1.out
          have h2 := HL2.out
          have h3 := HL3.out
          rw [← a1, ← b1, ← c1] at h1
          rw [← a2, ← b2, ← c2, ← HLN.out] at h2
          rw [← a3, ← b3, ← c3] at h3
          rw [← HR.out, getQ_eq l h1 h2 h3, b1, b2, b3]
        have HRR := Lib.hid hRR
        have HTE := Lib.hid (rdone_any HI4.out.tape)
        obtain ⟨te, hte⟩ : ∃ te, T3.end_ = te := ⟨_, rfl⟩
        rw [hte] at HTE HRR
        clear hRR hte HQ1 HQ2 HQ3 HL1 HL2 HL3
        have hfin : Hid (∀ (V : World), Below wc.heap.size wc V → QG W (gh + 1) g gh pt B cB vw va vr L1 L2 L3 T3 V) := Lib.hid fun V hV => HI4.out.keep hV
        cases ok1 with
        | false =>
          have HRZ := Lib.hid (show R = none from by have h9 := HRR.out; simpa using h9)
          go_upto_region 19 with (fail)
          refine wp_world (fun V => QG W (gh + 1) g gh pt B cB vw va vr L1 L2 L3 T3 V) HI4.out ?_
          clear HI4
          rintro V9 hI
          have HI9 := Lib.hid hI
          have f0 := hI.rg.frozen 0
          have f1 := hI.rg.frozen 1
          have f2 := hI.rg.frozen 2
          have x0 := hI.rg.cell 0
          have x1 := hI.rg.cell 1
          have x2 := hI.rg.cell 2
          clear hI
          go_wp2
          have hB2 := HI9.out.rg.set3 (.slice none 0 0) (.slice none 0 0) (.slice none 0 0)
          have y0 := hB2.cell 0
          have y1 := hB2.cell 1
          have y2 := hB2.cell 2
          refine bodyPost_ret (v := .tuple #[.agg #[.slice none 0 0, .slice none 0 0, .slice none 0 0], .int .i64 90]) (by simp [results, Try.results26, go_sem, y0, y1, y2]) rfl ?_
          refine ⟨HI9.out.old.trans ((fr_set3 V9 g _ _ _).below HI9.out.old.size (fun k hk => by rw [hk]; exact HI9.out.lo.2.2.1)), fun _ => rfl, fun ws nm rs h9 => (by rw [HRZ.out] at h9; cases h9)⟩
        | true =>
          cases ok2 with
          | false =>
            have HRZ := Lib.hid (show R = none from by have h9 := HRR.out; simpa using h9)
            go_upto_region 19 with (fail)
            refine wp_world (fun V => QG W (gh + 1) g gh pt B cB vw va vr L1 L2 L3 T3 V) HI4.out ?_
            clear HI4
            rintro V9 hI
            have HI9 := Lib.hid hI
            have f0 := hI.rg.frozen 0
            have f1 := hI.rg.frozen 1
            have f2 := hI.rg.frozen 2
            have x0 := hI.rg.cell 0
            have x1 := hI.rg.cell 1
            have x2 := hI.rg.cell 2
            clear hI
            go_wp2
            have hB2 := HI9.out.rg.set3 (.slice none 0 0) (.slice none 0 0) (.slice none 0 0)
            have y0 := hB2.cell 0
            have y1 := hB2.cell 1
            have y2 := hB2.cell 2
            refine bodyPost_ret (v := .tuple #[.agg #[.slice none 0 0, .slice none 0 0, .slice none 0 0], .int .i64 90]) (by simp [results, Try.results26, go_sem, y0, y1, y2]) rfl ?_
            refine ⟨HI9.out.old.trans ((fr_set3 V9 g _ _ _).below HI9.out.old.size (fun k hk => by rw [hk]; exact HI9.out.lo.2.2.1)), fun _ => rfl, fun ws nm rs h9 => (by rw [HRZ.out] at h9; cases h9)⟩
          | true =>
            cases ok3 with
            | false =>
              have HRZ := Lib.hid (show R = none from by have h9 := HRR.out; simpa using h9)
              go_upto_region 19 with (fail)
              refine wp_world (fun V => QG W (gh + 1) g gh pt B cB vw va vr L1 L2 L3 T3 V) HI4.out ?_
              clear HI4
              rintro V9 hI
              have HI9 := Lib.hid hI
              have f0 := hI.rg.frozen 0
              have f1 := hI.rg.frozen 1
              have f2 := hI.rg.frozen 2
              have x0 := hI.rg.cell 0
              have x1 := hI.rg.cell 1
              have x2 := hI.rg.cell 2
              clear hI
              go_wp2
              have hB2 := HI9.out.rg.set3 (.slice none 0 0) (.slice none 0 0) (.slice none 0 0)
              have y0 := hB2.cell 0
              have y1 := hB2.cell 1
              have y2 := hB2.cell 2
              refine bodyPost_ret (v := .tuple #[.agg #[.slice none 0 0, .slice none 0 0, .slice none 0 0], .int .i64 90]) (by simp [results, Try.results26, go_sem, y0, y1, y2]) rfl ?_
              refine ⟨HI9.out.old.trans ((fr_set3 V9 g _ _ _).below HI9.out.old.size (fun k hk => by rw [hk]; exact HI9.out.lo.2.2.1)), fun _ => rfl, fun ws nm rs h9 => (by rw [HRZ.out] at h9; cases h9)⟩
            | true =>
              by_cases ht : te = 0
              rotate_left
              · have HRZ := Lib.hid (show R = none from by have h9 := HRR.out; rw [if_neg (fun h8 => ht h8.2.2.2)] at h9; exact h9)
                have d2 : ((te : Int) != 0) = true := by simp; omega
                go_upto_region 19 with (go_at_call 52; refine HTE.out.mono ?_; rintro e w9 ⟨rfl, q, rfl⟩)
                refine wp_world (fun V => QG W (gh + 1) g gh pt B cB vw va vr L1 L2 L3 T3 V) (hfin.out _ (below_drewN (Below.refl _ _) q)) ?_
                clear HI4
                rintro V9 hI
                have HI9 := Lib.hid hI
                have f0 := hI.rg.frozen 0
                have f1 := hI.rg.frozen 1
                have f2 := hI.rg.frozen 2
                have x0 := hI.rg.cell 0
                have x1 := hI.rg.cell 1
                have x2 := hI.rg.cell 2
                clear hI
                go_wp2
                have hB2 := HI9.out.rg.set3 (.slice none 0 0) (.slice none 0 0) (.slice none 0 0)
                have y0 := hB2.cell 0
                have y1 := hB2.cell 1
                have y2 := hB2.cell 2
                refine bodyPost_ret (v := .tuple #[.agg #[.slice none 0 0, .slice none 0 0, .slice none 0 0], .int .i64 90]) (by simp [results, Try.results26, go_sem, y0, y1, y2]) rfl ?_
                refine ⟨HI9.out.old.trans ((fr_set3 V9 g _ _ _).below HI9.out.old.size (fun k hk => by rw [hk]; exact HI9.out.lo.2.2.1)), fun _ => rfl, fun ws nm rs h9 => (by rw [HRZ.out] at h9; cases h9)⟩
              · subst ht
                have HRZ := Lib.hid (show R = some (L1, L2, L3) from by have h9 := HRR.out; rw [if_pos ⟨rfl, rfl, rfl, rfl⟩] at h9; exact h9)
                have HTE : Hid (Calls Try.prog 52 #[.pointer (some ⟨pt, 0, none⟩)] wc fun r w' => r = .returned (.int .i64 0) ∧ ∃ q, w' = wc.drewN q) := HTE
                go_upto_region 20 with (go_at_call 52; refine HTE.out.mono ?_; rintro e w9 ⟨rfl, q, rfl⟩)
                refine wp_world (fun V => QG W (gh + 1) g gh pt B cB vw va vr L1 L2 L3 T3 V) (hfin.out _ (below_drewN (Below.refl _ _) q)) ?_
                clear HI4
                rintro V9 hI
                obtain ⟨Aw, cw, hw9⟩ := own_sl hI.ow
                obtain ⟨Aa, ca, ha9⟩ := own_sl hI.oa
                obtain ⟨Ar, cr, hr9⟩ := own_sl hI.orr
                subst hw9 ha9 hr9
                have HI9 := Lib.hid hI
                have x0 := hI.hb.cell 0
                have x1 := hI.hb.cell 1
                have x2 := hI.hb.cell 2
                have z0 := hI.rg.cell 0
                have z1 := hI.rg.cell 1
                have z2 := hI.rg.cell 2
                have f0 := hI.rg.frozen 0
                have f1 := hI.rg.frozen 1
                have f2 := hI.rg.frozen 2
                clear hI
                obtain ⟨m1, hm1⟩ : ∃ m, L1.length = m := ⟨_, rfl⟩
                obtain ⟨m2, hm2⟩ : ∃ m, L2.length = m := ⟨_, rfl⟩
                obtain ⟨m3, hm3⟩ : ∃ m, L3.length = m := ⟨_, rfl⟩
                have HM := Lib.hid (And.intro hm1 (And.intro hm2 hm3))
                rw [hm1] at x0
                rw [hm2] at x1
                rw [hm3] at x2
                clear hm1 hm2 hm3
                go_wp2
                have hB2 := HI9.out.rg.set3 (.slice Aw m1 cw) (.slice Aa m2 ca) (.slice Ar m3 cr)
                have y0 := hB2.cell 0
                have y1 := hB2.cell 1
                have y2 := hB2.cell 2
                refine bodyPost_ret (v := .tuple #[.agg #[.slice Aw m1 cw, .slice Aa m2 ca, .slice Ar m3 cr], .int .i64 0]) (by simp [results, Try.results26, go_sem, y0, y1, y2]) rfl ?_
                have hf := fr_set3 V9 g (.slice Aw m1 cw) (.slice Aa m2 ca) (.slice Ar m3 cr)
                have hI9 := HI9.out
                obtain ⟨i1, i2, i3, i4⟩ := hI9.hi
                refine ⟨hI9.old.trans (hf.below hI9.old.size (fun k hk => by rw [hk]; exact hI9.lo.2.2.1)), fun h9 => (by rw [HRZ.out] at h9; cases h9), fun ws nm rs h9 => ?_⟩
                rw [HRZ.out] at h9
                cases h9
                obtain ⟨hm1, hm2, hm3⟩ := HM.out
                have hrow : ∀ {e' n : Nat} {u : Value} {cs : List Value}, V9.ownsRow (gh + 1) e' 1 u n cs → (((V9.setCell ⟨g, 0, none⟩ (.slice Aw m1 cw)).setCell ⟨g, 1, none⟩ (.slice Aa m2 ca)).setCell ⟨g, 2, none⟩ (.slice Ar m3 cr)).ownsRow (gh + 1) e' 1 u n cs := fun hu => own_at hu fun k hk => hf.block k (own_heap hu hk).2.1 (fun e9 => by have := (own_heap hu hk).1; have e8 : k = g := e9; omega)
                refine ⟨Aw, cw, Aa, ca, Ar, cr, by rw [hm1, hm2, hm3], ?_⟩
                have ow := hrow hI9.ow
                have oa := hrow hI9.oa
                have orr := hrow hI9.orr
                exact { w := rdc_own ow, a := rdc_own oa, r := rdc_own orr, hlw := rfl, hla := rfl, hlr := rfl, hcw := own_caps ow, hca := own_caps oa, hcr := own_caps orr, w64 := hI9.w64, r64 := hI9.r64 }
end
end
end Go.Proofs.Ytefnjplfemgibaa
