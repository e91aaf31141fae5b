/- Heap (layer 9): Get: the plain law, what the walk keeps, the two closures. Written by hpgenr.py. Heap (layer 9): what Put laid is what Get finds; cut off, or with a byte more, it is none. -/
import Derived.Test.YtefnjplfemgibaaHpQ
import Derived.Test.YtefnjplfemgibaaTapeD
import Derived.Test.YtefnjplfemgibaaBackL
namespace Go.Proofs.Ytefnjplfemgibaa
section
open Go.RowKit
set_option linter.unusedVariables false

/-- A number of things. -/
def cntP (t : TS) (e : Nat) : Nat × TS × Nat := if 65536 < (t.number false).1.1 then (0, (t.number false).2, 90) else ((t.number false).1.1, (t.number false).2, e)
def numsP : Nat → TS → Nat → List Nat × TS
  | 0, t, _ => ([], t)
  | n + 1, t, e => if t.fault = 0 ∧ e = 0 then ((t.number false).1.1 :: (numsP n (t.number false).2 e).1, (numsP n (t.number false).2 e).2) else ([], t)
def strsP (m : Int) : Nat → TS → Nat → List (List UInt8) × TS
  | 0, t, _ => ([], t)
  | n + 1, t, e => if t.fault = 0 ∧ e = 0 then ((t.str m).1 :: (strsP m n (t.str m).2 e).1, (strsP m n (t.str m).2 e).2) else ([], t)
theorem numsP_zero (t : TS) (e : Nat) : numsP 0 t e = ([], t) := rfl
theorem strsP_zero (m : Int) (t : TS) (e : Nat) : strsP m 0 t e = ([], t) := rfl
theorem numsP_no {t : TS} {e : Nat} (n : Nat) (h : ¬ (t.fault = 0 ∧ e = 0)) : numsP n t e = ([], t) := by cases n with | zero => rfl | succ n => (rw [numsP, if_neg h])
theorem strsP_no {t : TS} {e : Nat} (m : Int) (n : Nat) (h : ¬ (t.fault = 0 ∧ e = 0)) : strsP m n t e = ([], t) := by cases n with | zero => rfl | succ n => (rw [strsP, if_neg h])
theorem numsP_yes {t : TS} {e : Nat} (n : Nat) (h : t.fault = 0 ∧ e = 0) : numsP (n + 1) t e = ((t.number false).1.1 :: (numsP n (t.number false).2 e).1, (numsP n (t.number false).2 e).2) := by rw [numsP, if_pos h]
theorem strsP_yes {t : TS} {e : Nat} (m : Int) (n : Nat) (h : t.fault = 0 ∧ e = 0) : strsP m (n + 1) t e = ((t.str m).1 :: (strsP m n (t.str m).2 e).1, (strsP m n (t.str m).2 e).2) := by rw [strsP, if_pos h]
theorem cntP_le (t : TS) (e : Nat) : (cntP t e).1 ≤ 65536 := by unfold cntP; split <;> simp; omega
theorem cntP_e (t : TS) {e : Nat} (h : e ≤ 90) : (cntP t e).2.2 ≤ 90 := by unfold cntP; split <;> simp [h]
/-- The heap of bytes. -/
def getP (b : List UInt8) : Option (List Nat × List (List UInt8) × List Nat) :=
  let c1 := cntP ⟨b, 0, 0, 0⟩ 0
  let w := numsP c1.1 c1.2.1 c1.2.2
  let c2 := cntP w.2 c1.2.2
  let a := strsP (b.length : Int) c2.1 c2.2.1 c2.2.2
  let c3 := cntP a.2 c2.2.2
  let r := numsP c3.1 c3.2.1 c3.2.2
  if c3.2.2 = 0 ∧ r.2.end_ = 0 then some (w.1, a.1, r.1) else none

/-- What Get keeps. -/
structure GI (w0 : World) (P0 gh ge gr pt : Nat) (B : Option Addr) (cB : Nat) (vw va vr : Value) (ws : List Nat) (nm : List (List UInt8)) (rs : List Nat) (t : TS) (e : Nat) (W : World) : Prop where
  old : Below w0.heap.size w0 W
  tape : TapeAt pt B cB t W
  hb : Blk W gh 29 #[vw, va, vr]
  eb : Blk W ge 30 #[.int .i64 (e : Int)]
  rb : Blk W gr 87 #[.pointer (some ⟨pt, 0, none⟩)]
  ow : W.ownsRow P0 34 1 vw ws.length (ws.map nv)
  oa : W.ownsRow P0 9 1 va nm.length (nm.map hv)
  orr : W.ownsRow P0 34 1 vr rs.length (rs.map nv)
  lo : w0.heap.size ≤ pt ∧ w0.heap.size ≤ gh ∧ w0.heap.size ≤ ge ∧ w0.heap.size ≤ gr ∧ w0.heap.size ≤ P0
  hi : pt < P0 ∧ gh < P0 ∧ ge < P0 ∧ gr < P0 ∧ P0 ≤ W.heap.size
  ne : pt ≠ gh ∧ pt ≠ ge ∧ pt ≠ gr ∧ gh ≠ ge ∧ gh ≠ gr ∧ ge ≠ gr
  bB : ∀ b off, B = some ⟨b, off, none⟩ → b < P0 ∧ b ≠ gh ∧ b ≠ ge
  apart : ∀ k, (vw.ownBlock = some k → va.ownBlock ≠ some k ∧ vr.ownBlock ≠ some k) ∧ (va.ownBlock = some k → vr.ownBlock ≠ some k)
  w64 : W64 ws
  r64 : W64 rs
  le : e ≤ 90
section
variable {w0 W W' V : World} {P0 gh ge gr pt : Nat} {B : Option Addr} {cB : Nat} {vw va vr v' : Value} {ws rs xs : List Nat} {nm ss : List (List UInt8)} {t t' : TS} {e : Nat}
theorem GI.keep (h : GI w0 P0 gh ge gr pt B cB vw va vr ws nm rs t e W) (hb : Below W.heap.size W V) : GI w0 P0 gh ge gr pt B cB vw va vr ws nm rs t e V :=
  { h with old := below_step h.old hb, tape := h.tape.keep hb, hb := h.hb.keep hb, eb := h.eb.keep hb, rb := h.rb.keep hb, ow := own_far h.ow hb, oa := own_far h.oa hb, orr := own_far h.orr hb, hi := ⟨h.hi.1, h.hi.2.1, h.hi.2.2.1, h.hi.2.2.2.1, Nat.le_trans h.hi.2.2.2.2 hb.size⟩ }
theorem GI.tact (h : GI w0 P0 gh ge gr pt B cB vw va vr ws nm rs t e W) (a : TAct W pt B cB t' V) : GI w0 P0 gh ge gr pt B cB vw va vr ws nm rs t' e V := by
  obtain ⟨n1, n2, n3, n4, n5, n6⟩ := h.ne
  obtain ⟨i1, i2, i3, i4, i5⟩ := h.hi
  have hrow : ∀ {e' n : Nat} {v : Value} {cs : List Value}, W.ownsRow P0 e' 1 v n cs → V.ownsRow P0 e' 1 v n cs := fun ho => own_at ho fun k hk => a.fr.block k (own_heap ho hk).2.1 (fun e9 => by have := (own_heap ho hk).1; omega)
  exact { h with
    old := h.old.trans (a.fr.below h.old.size (fun k hk => by rw [hk]; exact h.lo.1))
    tape := a.tape
    hb := a.fr.blk h.hb (fun e9 => n1 e9.symm)
    eb := a.fr.blk h.eb (fun e9 => n2 e9.symm)
    rb := a.fr.blk h.rb (fun e9 => n3 e9.symm)
    ow := hrow h.ow
    oa := hrow h.oa
    orr := hrow h.orr
    hi := ⟨i1, i2, i3, i4, Nat.le_trans i5 a.fr.size⟩ }
/-- The error is 90. -/
theorem GI.err (h : GI w0 P0 gh ge gr pt B cB vw va vr ws nm rs t e W) : GI w0 P0 gh ge gr pt B cB vw va vr ws nm rs t 90 (W.setCell ⟨ge, 0, none⟩ (.int .i64 90)) := by
  obtain ⟨n1, n2, n3, n4, n5, n6⟩ := h.ne
  obtain ⟨i1, i2, i3, i4, i5⟩ := h.hi
  have hf : Fr (fun k => k = ge) W (W.setCell ⟨ge, 0, none⟩ (.int .i64 90)) := Fr.setCell (fun k => k = ge) W (p := ⟨ge, 0, none⟩) (fun _ => rfl) _
  have hrow : ∀ {e' n : Nat} {v : Value} {cs : List Value}, W.ownsRow P0 e' 1 v n cs → (W.setCell ⟨ge, 0, none⟩ (.int .i64 90)).ownsRow P0 e' 1 v n cs := fun ho => own_at ho fun k hk => hf.block k (own_heap ho hk).2.1 (fun e9 => by have := (own_heap ho hk).1; omega)
  exact { h with
    old := h.old.trans (hf.below h.old.size (fun k hk => by rw [hk]; exact h.lo.2.2.1))
    tape := h.tape.far hf n2 (fun b off e9 => (h.bB b off e9).2.2)
    hb := hf.blk h.hb n4
    eb := h.eb.set_ 0 (.int .i64 90)
    rb := hf.blk h.rb (Ne.symm n6)
    ow := hrow h.ow
    oa := hrow h.oa
    orr := hrow h.orr
    hi := ⟨i1, i2, i3, i4, Nat.le_trans i5 hf.size⟩
    le := Nat.le_refl _ }
theorem GI.setW (h : GI w0 P0 gh ge gr pt B cB vw va vr ws nm rs t e W) (ho : V.ownsRow P0 34 1 v' xs.length (xs.map nv)) (hg : W.grownBy V vw.ownBlock) (hat : v'.ownBlock = vw.ownBlock ∨ v'.ownBlock = some W.heap.size) (h64 : W64 xs) : GI w0 P0 gh ge gr pt B cB v' va vr xs nm rs t e (V.setCell ⟨gh, 0, none⟩ v') := by
  obtain ⟨n1, n2, n3, n4, n5, n6⟩ := h.ne
  obtain ⟨i1, i2, i3, i4, i5⟩ := h.hi
  have hlo : ∀ k, vw.ownBlock = some k → P0 ≤ k := fun k hk => (own_heap h.ow hk).1
  have hf : Fr (fun k => P0 ≤ k ∨ k = gh) W (V.setCell ⟨gh, 0, none⟩ v') := (Fr.of_grown hg fun k hk _ => .inl (hlo k hk)).same (Fr.setCell (fun k => P0 ≤ k ∨ k = gh) V (p := ⟨gh, 0, none⟩) (fun _ => .inr rfl) _)
  have hrow : ∀ {e' n : Nat} {u : Value} {cs : List Value}, W.ownsRow P0 e' 1 u n cs → (∀ k, u.ownBlock = some k → vw.ownBlock ≠ some k) → (V.setCell ⟨gh, 0, none⟩ v').ownsRow P0 e' 1 u n cs := fun hu hn => own_at hu fun k hk => (Below.heap_setCell V ⟨gh, 0, none⟩ v' k (fun e9 => by have := (own_heap hu hk).1; have e8 : k = gh := e9; omega)).trans (hg.block k (own_heap hu hk).2.1 (fun e9 => hn k hk e9.symm))
  have hv' : ∀ k, v'.ownBlock = some k → vw.ownBlock = some k ∨ k = W.heap.size := fun k hk => by
    rcases hat with h1 | h1
    · rw [h1] at hk; exact .inl hk
    · rw [h1] at hk; exact .inr (Option.some.inj hk).symm
  have hsz : (V.setCell ⟨gh, 0, none⟩ v').heap.size = V.heap.size := by simp [World.setCell]
  have hB : Blk V gh 29 #[vw, va, vr] := h.hb.grown hg (fun e9 => by have := hlo gh e9.symm; omega)
  exact { h with
    old := h.old.trans (hf.below h.old.size (fun k hk => by rcases hk with hk | rfl; exact Nat.le_trans h.lo.2.2.2.2 hk; exact h.lo.2.1))
    tape := h.tape.far hf (by rintro (h9 | h9); omega; exact n1 h9) (fun b off e9 h9 => by have := h.bB b off e9; rcases h9 with h9 | h9; omega; exact this.2.1 h9)
    hb := hB.set_ 0 v'
    eb := hf.blk h.eb (by rintro (h9 | h9); omega; exact n4 h9.symm)
    rb := hf.blk h.rb (by rintro (h9 | h9); omega; exact n5 h9.symm)
    ow := own_at ho fun k hk => Below.heap_setCell V ⟨gh, 0, none⟩ v' k (fun e9 => by have := (own_heap ho hk).1; have e8 : k = gh := e9; omega)
    oa := hrow h.oa (fun k hk h9 => ((h.apart k).1 h9).1 hk)
    orr := hrow h.orr (fun k hk h9 => ((h.apart k).1 h9).2 hk)
    apart := fun k => ⟨fun hk => ⟨fun h9 => (by rcases hv' k hk with h8 | h8; exact (fun k hk => ((h.apart k).1 hk).1) k h8 h9; have := (own_heap h.oa h9).2.1; omega), fun h9 => (by rcases hv' k hk with h8 | h8; exact (fun k hk => ((h.apart k).1 hk).2) k h8 h9; have := (own_heap h.orr h9).2.1; omega)⟩, fun hk h9 => ((fun k hk => (h.apart k).2 hk) k hk h9)⟩
    hi := ⟨i1, i2, i3, i4, by rw [hsz]; exact Nat.le_trans i5 hg.size⟩
    w64 := h64 }
theorem GI.setA (h : GI w0 P0 gh ge gr pt B cB vw va vr ws nm rs t e W) (ho : V.ownsRow P0 9 1 v' ss.length (ss.map hv)) (hg : W.grownBy V va.ownBlock) (hat : v'.ownBlock = va.ownBlock ∨ v'.ownBlock = some W.heap.size) : GI w0 P0 gh ge gr pt B cB vw v' vr ws ss rs t e (V.setCell ⟨gh, 1, none⟩ v') := by
  obtain ⟨n1, n2, n3, n4, n5, n6⟩ := h.ne
  obtain ⟨i1, i2, i3, i4, i5⟩ := h.hi
  have hlo : ∀ k, va.ownBlock = some k → P0 ≤ k := fun k hk => (own_heap h.oa hk).1
  have hf : Fr (fun k => P0 ≤ k ∨ k = gh) W (V.setCell ⟨gh, 1, none⟩ v') := (Fr.of_grown hg fun k hk _ => .inl (hlo k hk)).same (Fr.setCell (fun k => P0 ≤ k ∨ k = gh) V (p := ⟨gh, 1, none⟩) (fun _ => .inr rfl) _)
  have hrow : ∀ {e' n : Nat} {u : Value} {cs : List Value}, W.ownsRow P0 e' 1 u n cs → (∀ k, u.ownBlock = some k → va.ownBlock ≠ some k) → (V.setCell ⟨gh, 1, none⟩ v').ownsRow P0 e' 1 u n cs := fun hu hn => own_at hu fun k hk => (Below.heap_setCell V ⟨gh, 1, none⟩ v' k (fun e9 => by have := (own_heap hu hk).1; have e8 : k = gh := e9; omega)).trans (hg.block k (own_heap hu hk).2.1 (fun e9 => hn k hk e9.symm))
  have hv' : ∀ k, v'.ownBlock = some k → va.ownBlock = some k ∨ k = W.heap.size := fun k hk => by
    rcases hat with h1 | h1
    · rw [h1] at hk; exact .inl hk
    · rw [h1] at hk; exact .inr (Option.some.inj hk).symm
  have hsz : (V.setCell ⟨gh, 1, none⟩ v').heap.size = V.heap.size := by simp [World.setCell]
  have hB : Blk V gh 29 #[vw, va, vr] := h.hb.grown hg (fun e9 => by have := hlo gh e9.symm; omega)
  exact { h with
    old := h.old.trans (hf.below h.old.size (fun k hk => by rcases hk with hk | rfl; exact Nat.le_trans h.lo.2.2.2.2 hk; exact h.lo.2.1))
    tape := h.tape.far hf (by rintro (h9 | h9); omega; exact n1 h9) (fun b off e9 h9 => by have := h.bB b off e9; rcases h9 with h9 | h9; omega; exact this.2.1 h9)
    hb := hB.set_ 1 v'
    eb := hf.blk h.eb (by rintro (h9 | h9); omega; exact n4 h9.symm)
    rb := hf.blk h.rb (by rintro (h9 | h9); omega; exact n5 h9.symm)
    oa := own_at ho fun k hk => Below.heap_setCell V ⟨gh, 1, none⟩ v' k (fun e9 => by have := (own_heap ho hk).1; have e8 : k = gh := e9; omega)
    ow := hrow h.ow (fun k hk => ((h.apart k).1 hk).1)
    orr := hrow h.orr (fun k hk h9 => (h.apart k).2 h9 hk)
    apart := fun k => ⟨fun hk => ⟨fun h9 => (by rcases hv' k h9 with h8 | h8; exact (fun k hk => ((h.apart k).1 hk).1) k hk h8; have := (own_heap h.ow hk).2.1; omega), fun h9 => ((fun k hk => ((h.apart k).1 hk).2) k hk h9)⟩, fun hk h9 => (by rcases hv' k hk with h8 | h8; exact (fun k hk => (h.apart k).2 hk) k h8 h9; have := (own_heap h.orr h9).2.1; omega)⟩
    hi := ⟨i1, i2, i3, i4, by rw [hsz]; exact Nat.le_trans i5 hg.size⟩ }
theorem GI.setR (h : GI w0 P0 gh ge gr pt B cB vw va vr ws nm rs t e W) (ho : V.ownsRow P0 34 1 v' xs.length (xs.map nv)) (hg : W.grownBy V vr.ownBlock) (hat : v'.ownBlock = vr.ownBlock ∨ v'.ownBlock = some W.heap.size) (h64 : W64 xs) : GI w0 P0 gh ge gr pt B cB vw va v' ws nm xs t e (V.setCell ⟨gh, 2, none⟩ v') := by
  obtain ⟨n1, n2, n3, n4, n5, n6⟩ := h.ne
  obtain ⟨i1, i2, i3, i4, i5⟩ := h.hi
  have hlo : ∀ k, vr.ownBlock = some k → P0 ≤ k := fun k hk => (own_heap h.orr hk).1
  have hf : Fr (fun k => P0 ≤ k ∨ k = gh) W (V.setCell ⟨gh, 2, none⟩ v') := (Fr.of_grown hg fun k hk _ => .inl (hlo k hk)).same (Fr.setCell (fun k => P0 ≤ k ∨ k = gh) V (p := ⟨gh, 2, none⟩) (fun _ => .inr rfl) _)
  have hrow : ∀ {e' n : Nat} {u : Value} {cs : List Value}, W.ownsRow P0 e' 1 u n cs → (∀ k, u.ownBlock = some k → vr.ownBlock ≠ some k) → (V.setCell ⟨gh, 2, none⟩ v').ownsRow P0 e' 1 u n cs := fun hu hn => own_at hu fun k hk => (Below.heap_setCell V ⟨gh, 2, none⟩ v' k (fun e9 => by have := (own_heap hu hk).1; have e8 : k = gh := e9; omega)).trans (hg.block k (own_heap hu hk).2.1 (fun e9 => hn k hk e9.symm))
  have hv' : ∀ k, v'.ownBlock = some k → vr.ownBlock = some k ∨ k = W.heap.size := fun k hk => by
    rcases hat with h1 | h1
    · rw [h1] at hk; exact .inl hk
    · rw [h1] at hk; exact .inr (Option.some.inj hk).symm
  have hsz : (V.setCell ⟨gh, 2, none⟩ v').heap.size = V.heap.size := by simp [World.setCell]
  have hB : Blk V gh 29 #[vw, va, vr] := h.hb.grown hg (fun e9 => by have := hlo gh e9.symm; omega)
  exact { h with
    old := h.old.trans (hf.below h.old.size (fun k hk => by rcases hk with hk | rfl; exact Nat.le_trans h.lo.2.2.2.2 hk; exact h.lo.2.1))
    tape := h.tape.far hf (by rintro (h9 | h9); omega; exact n1 h9) (fun b off e9 h9 => by have := h.bB b off e9; rcases h9 with h9 | h9; omega; exact this.2.1 h9)
    hb := hB.set_ 2 v'
    eb := hf.blk h.eb (by rintro (h9 | h9); omega; exact n4 h9.symm)
    rb := hf.blk h.rb (by rintro (h9 | h9); omega; exact n5 h9.symm)
    orr := own_at ho fun k hk => Below.heap_setCell V ⟨gh, 2, none⟩ v' k (fun e9 => by have := (own_heap ho hk).1; have e8 : k = gh := e9; omega)
    ow := hrow h.ow (fun k hk => ((h.apart k).1 hk).2)
    oa := hrow h.oa (fun k hk => (h.apart k).2 hk)
    apart := fun k => ⟨fun hk => ⟨fun h9 => ((fun k hk => ((h.apart k).1 hk).1) k hk h9), fun h9 => (by rcases hv' k h9 with h8 | h8; exact (fun k hk => ((h.apart k).1 hk).2) k hk h8; have := (own_heap h.ow hk).2.1; omega)⟩, fun hk h9 => (by rcases hv' k h9 with h8 | h8; exact (fun k hk => (h.apart k).2 hk) k hk h8; have := (own_heap h.oa hk).2.1; omega)⟩
    hi := ⟨i1, i2, i3, i4, by rw [hsz]; exact Nat.le_trans i5 hg.size⟩
    r64 := h64 }
set_option maxHeartbeats 1000000 in
theorem sound_v (h : GI w0 P0 gh ge gr pt B cB vw va vr ws nm rs t e W) : Calls Try.prog 42 #[.pointer (some ⟨gr, 0, none⟩), .pointer (some ⟨ge, 0, none⟩)] W fun r w' => r = .returned (.bool (decide (t.fault = 0 ∧ e = 0))) ∧ GI w0 P0 gh ge gr pt B cB vw va vr ws nm rs t e w' := by
  have HF := Lib.hid (fault_any h.tape)
  have r0 := h.rb.cell 0
  have HE : Hid (∀ q, (W.drewN q).cell? ⟨ge, 0, none⟩ = some (.int .i64 (e : Int))) := Lib.hid fun q => h.eb.cell 0
  have HR : Hid (∀ q, GI w0 P0 gh ge gr pt B cB vw va vr ws nm rs t e (W.drewN q)) := Lib.hid fun q => h.keep (below_drewN (Below.refl _ _) q)
  clear h
  obtain ⟨fl, hfl⟩ : ∃ f, t.fault = f := ⟨_, rfl⟩
  rw [hfl] at HF ⊢
  clear hfl
  by_cases h1 : fl = 0
  · subst h1
    by_cases h2 : e = 0
    · subst h2
      go_enter Try.func42, Try.ntmps42
      go_wp2_with (go_at_call 43; refine HF.out.mono ?_; rintro e w1 ⟨rfl, q, rfl⟩; have e0 := HE.out q)
      go_ret
      exact ⟨rfl, HR.out q⟩
    · have h3 : ((e : Int) == 0) = false := by simp; omega
      rw [decide_eq_false (fun h9 => h2 h9.2)]
      go_enter Try.func42, Try.ntmps42
      go_wp2_with (go_at_call 43; refine HF.out.mono ?_; rintro e w1 ⟨rfl, q, rfl⟩; have e0 := HE.out q)
      go_ret
      exact ⟨rfl, HR.out q⟩
  · have h3 : ((fl : Int) == 0) = false := by simp; omega
    rw [decide_eq_false (fun h9 => h1 h9.1)]
    go_enter Try.func42, Try.ntmps42
    go_wp2_with (go_at_call 43; refine HF.out.mono ?_; rintro e w1 ⟨rfl, q, rfl⟩; have e0 := HE.out q)
    go_ret
    exact ⟨rfl, HR.out q⟩
set_option maxHeartbeats 1000000 in
theorem count_v (h : GI w0 P0 gh ge gr pt B cB vw va vr ws nm rs t e W) : Calls Try.prog 44 #[.pointer (some ⟨gr, 0, none⟩), .pointer (some ⟨ge, 0, none⟩)] W fun r w' => r = .returned (.int .i64 ((cntP t e).1 : Int)) ∧ GI w0 P0 gh ge gr pt B cB vw va vr ws nm rs (cntP t e).2.1 (cntP t e).2.2 w' := by
  have HN := Lib.hid (tnum_any h.tape)
  have r0 := h.rb.cell 0
  have HH := Lib.hid h
  have hlt := number_lt (t := t) false
  clear h
  unfold cntP
  obtain ⟨n, b, t2, hx⟩ : ∃ n b t2, t.number false = ((n, b), t2) := ⟨_, _, _, rfl⟩
  rw [hx] at HN hlt ⊢
  simp only at hlt HN ⊢
  clear hx
  by_cases hbig : 65536 < n
  · rw [if_pos hbig]
    have d1 : decide ((65536 : Int) < (n : Int)) = true := by simp; omega
    go_enter Try.func44, Try.ntmps44
    go_wp2_with (go_at_call 45; refine HN.out.mono ?_; rintro r w1 ⟨rfl, hA⟩; have HG := Lib.hid (HH.out.tact hA); have e0 := HG.out.eb.cell 0; have ez := HG.out.eb.frozen 0; clear hA)
    go_ret
    exact ⟨rfl, HG.out.err⟩
  · rw [if_neg hbig]
    have d1 : decide ((65536 : Int) < (n : Int)) = false := by simp; omega
    go_enter Try.func44, Try.ntmps44
    go_wp2_with (go_at_call 45; refine HN.out.mono ?_; rintro r w1 ⟨rfl, hA⟩; have HG := Lib.hid (HH.out.tact hA); clear hA)
    have hw : IntKind.i64.wrap (n : Int) = (n : Int) := by rw [IntKind.wrap_i64]; omega
    first
      | (go_ret; exact ⟨by first | rfl | rw [hw], HG.out⟩)
      | (rw [hw]; go_ret; exact ⟨rfl, HG.out⟩)
end
end
section
open Go.RowKit
set_option linter.unusedVariables false

section
variable {t : TS} {r : List UInt8} {k : Nat}
theorem drop_on {a r : List UInt8} (h : t.bytes.drop t.pos = a ++ r) : t.bytes.drop (t.pos + a.length) = r := by
  rw [← List.drop_drop, h]
  simp
theorem cntP_at {n : Nat} (hf : t.fault = 0) (hn : n ≤ 65536) (h : t.bytes.drop t.pos = laidB n 0 ++ r) : cntP t 0 = (n, { t with pos := t.pos + (laidB n 0).length }, 0) := by
  unfold cntP
  rw [number_at hf (by omega) h, laidB_len]
  simp only
  rw [if_neg (by omega)]
theorem numsP_at : ∀ (ns : List Nat) (t : TS), t.fault = 0 → W64 ns → t.bytes.drop t.pos = laidL ns ++ r → numsP ns.length t 0 = (ns, { t with pos := t.pos + (laidL ns).length })
  | [], t, hf, hw, h => by simp [numsP, laidL]
  | n :: ns, t, hf, hw, h => by
    have e : laidL (n :: ns) = laidB n 0 ++ laidL ns := rfl
    rw [e, List.append_assoc] at h
    rw [List.length_cons, numsP_yes _ ⟨hf, rfl⟩, number_at hf (hw n (by simp)) h]
    simp only
    have h2 := drop_on h
    rw [laidB_len] at h2
    rw [numsP_at ns { t with pos := t.pos + (wid n + 1) } hf (fun y hy => hw y (by simp [hy])) h2, e, List.length_append, laidB_len, Nat.add_assoc]
theorem strsP_at {m : Int} : ∀ (ss : List (List UInt8)) (t : TS), t.fault = 0 → (∀ s ∈ ss, (s.length : Int) ≤ m ∧ s.length < 18446744073709551616) → t.bytes.drop t.pos = laidSs ss ++ r → strsP m ss.length t 0 = (ss, { t with pos := t.pos + (laidSs ss).length })
  | [], t, hf, hw, h => by simp [strsP, laidSs]
  | s :: ss, t, hf, hw, h => by
    have e : laidSs (s :: ss) = laidS s ++ laidSs ss := rfl
    rw [e, List.append_assoc] at h
    obtain ⟨h1, h3⟩ := hw s (by simp)
    rw [List.length_cons, strsP_yes m _ ⟨hf, rfl⟩, str_at hf h3 h1 h]
    simp only
    have h2 := drop_on h
    rw [strsP_at ss { t with pos := t.pos + (laidS s).length } hf (fun y hy => hw y (by simp [hy])) h2, e, List.length_append, Nat.add_assoc]
theorem cntP_stop (hf : t.fault ≠ 0) (e : Nat) : cntP t e = (0, t, e) := by
  unfold cntP
  rw [number_stopped_eq hf]
  simp
theorem cntP_cut {n : Nat} (hf : t.fault = 0) (hk : k < (laidB n 0).length) (h : t.bytes.drop t.pos = (laidB n 0).take k) : (cntP t 0).2.1.fault ≠ 0 := by
  unfold cntP
  rw [number_cut hf hk h]
  simp only
  rw [if_neg (by omega)]
  show (3 : Nat) ≠ 0
  omega
theorem numsP_cut : ∀ (ns : List Nat) (t : TS) (k : Nat), t.fault = 0 → W64 ns → k < (laidL ns).length → t.bytes.drop t.pos = (laidL ns).take k → (numsP ns.length t 0).2.fault ≠ 0
  | [], t, k, hf, hw, hk, h => by simp [laidL] at hk
  | n :: ns, t, k, hf, hw, hk, h => by
    have e : laidL (n :: ns) = laidB n 0 ++ laidL ns := rfl
    rw [e] at h hk
    rw [List.length_cons, numsP_yes _ ⟨hf, rfl⟩]
    by_cases hc : k < (laidB n 0).length
    · rw [List.take_append_of_le_length (by omega)] at h
      rw [number_cut hf hc h]
      simp only
      rw [numsP_no _ (fun h9 => by have h8 : (3 : Nat) = 0 := h9.1; omega)]
      show (3 : Nat) ≠ 0
      omega
    · rw [List.take_append, List.take_of_length_le (by omega)] at h
      rw [number_at hf (hw n (by simp)) h]
      simp only
      have h2 := drop_on h
      rw [laidB_len] at h2
      rw [List.length_append] at hk
      exact numsP_cut ns { t with pos := t.pos + (wid n + 1) } _ hf (fun y hy => hw y (by simp [hy])) (by rw [laidB_len] at *; omega) h2
theorem str_cut2 {s : List UInt8} {most : Int} (hf : t.fault = 0) (hs : s.length < 18446744073709551616) (hk : k < (laidS s).length) (h : t.bytes.drop t.pos = (laidS s).take k) : (t.str most).2.fault ≠ 0 := by
  unfold laidS at h hk
  by_cases hc : k < (laidB s.length 0).length
  · rw [List.take_append_of_le_length (by omega)] at h
    have hx := number_cut hf hc h
    unfold TS.str
    rw [hx]
    simp only
    rw [if_pos (by show (3 : Nat) ≠ 0; omega)]
    show (3 : Nat) ≠ 0
    omega
  · rw [List.take_append, List.take_of_length_le (by omega)] at h
    have hx := number_at hf hs h
    have hd := drop_on h
    rw [laidB_len] at hd hc
    have hl := congrArg List.length hd
    rw [List.length_drop, List.length_take] at hl
    rw [List.length_append, laidB_len] at hk
    unfold TS.str
    rw [hx]
    simp only
    rw [if_neg (by simp [hf])]
    split
    · show (1 : Nat) ≠ 0
      omega
    · rw [if_pos (by omega)]
      show (3 : Nat) ≠ 0
      omega
theorem str_fits {s : List UInt8} (h : t.bytes.drop t.pos = laidS s ++ r) : s.length ≤ t.bytes.length := by
  have := congrArg List.length h
  simp only [laidS, List.length_drop, List.length_append] at this
  omega
theorem strsP_cut : ∀ (ss : List (List UInt8)) (t : TS) (k : Nat), t.fault = 0 → (∀ s ∈ ss, s.length < 18446744073709551616) → k < (laidSs ss).length → t.bytes.drop t.pos = (laidSs ss).take k → (strsP (t.bytes.length : Int) ss.length t 0).2.fault ≠ 0
  | [], t, k, hf, hw, hk, h => by simp [laidSs] at hk
  | s :: ss, t, k, hf, hw, hk, h => by
    have e : laidSs (s :: ss) = laidS s ++ laidSs ss := rfl
    rw [e] at h hk
    have h3 := hw s (by simp)
    rw [List.length_cons, strsP_yes _ _ ⟨hf, rfl⟩]
    by_cases hc : k < (laidS s).length
    · rw [List.take_append_of_le_length (by omega)] at h
      have h9 := str_cut2 (most := (t.bytes.length : Int)) hf h3 hc h
      simp only
      rw [strsP_no _ _ (fun h8 => h9 h8.1)]
      exact h9
    · rw [List.take_append, List.take_of_length_le (by omega)] at h
      rw [str_at hf h3 (by have := str_fits h; omega) h]
      simp only
      have h2 := drop_on h
      rw [List.length_append] at hk
      exact strsP_cut ss { t with pos := t.pos + (laidS s).length } _ hf (fun y hy => hw y (by simp [hy])) (by omega) h2
end

/-! Get, piece by piece. -/
def g6 (w : List Nat) (a : List (List UInt8)) (c : Nat × TS × Nat) : Option (List Nat × List (List UInt8) × List Nat) :=
  if c.2.2 = 0 ∧ (numsP c.1 c.2.1 c.2.2).2.end_ = 0 then some (w, a, (numsP c.1 c.2.1 c.2.2).1) else none
def g5 (w : List Nat) (a : List (List UInt8) × TS) (e : Nat) : Option (List Nat × List (List UInt8) × List Nat) := g6 w a.1 (cntP a.2 e)
def g4 (m : Int) (w : List Nat) (c : Nat × TS × Nat) : Option (List Nat × List (List UInt8) × List Nat) := g5 w (strsP m c.1 c.2.1 c.2.2) c.2.2
def g3 (m : Int) (w : List Nat × TS) (e : Nat) : Option (List Nat × List (List UInt8) × List Nat) := g4 m w.1 (cntP w.2 e)
def g2 (m : Int) (c : Nat × TS × Nat) : Option (List Nat × List (List UInt8) × List Nat) := g3 m (numsP c.1 c.2.1 c.2.2) c.2.2
theorem getP_eq (b : List UInt8) : getP b = g2 (b.length : Int) (cntP ⟨b, 0, 0, 0⟩ 0) := rfl
theorem end_stop {t : TS} (h : t.fault ≠ 0) : t.end_ ≠ 0 := by unfold TS.end_; rw [if_neg (fun h9 => h h9.1)]; exact h
theorem g6_end {w : List Nat} {a : List (List UInt8)} {c : Nat × TS × Nat} (h : (numsP c.1 c.2.1 c.2.2).2.fault ≠ 0) : g6 w a c = none := by
  unfold g6
  rw [if_neg (fun h9 => end_stop h h9.2)]
theorem g6_stop {w : List Nat} {a : List (List UInt8)} {c : Nat × TS × Nat} (h : c.2.1.fault ≠ 0) : g6 w a c = none := g6_end (by rw [numsP_no _ (fun h9 => h h9.1)]; exact h)
theorem g5_stop {w : List Nat} {a : List (List UInt8) × TS} {e : Nat} (h : a.2.fault ≠ 0) : g5 w a e = none := by unfold g5; exact g6_stop (by rw [cntP_stop h]; exact h)
theorem g4_stop {m : Int} {w : List Nat} {c : Nat × TS × Nat} (h : c.2.1.fault ≠ 0) : g4 m w c = none := by unfold g4; exact g5_stop (by rw [strsP_no _ _ (fun h9 => h h9.1)]; exact h)
theorem g3_stop {m : Int} {w : List Nat × TS} {e : Nat} (h : w.2.fault ≠ 0) : g3 m w e = none := by unfold g3; exact g4_stop (by rw [cntP_stop h]; exact h)
theorem g2_stop {m : Int} {c : Nat × TS × Nat} (h : c.2.1.fault ≠ 0) : g2 m c = none := by unfold g2; exact g3_stop (by rw [numsP_no _ (fun h9 => h h9.1)]; exact h)

theorem laidL_one (n : Nat) : laidL [n] = laidB n 0 := by simp [laidL]
theorem putP_eq (ws : List Nat) (nm : List (List UInt8)) (rs : List Nat) : putP ws nm rs = laidB ws.length 0 ++ (laidL ws ++ (laidB nm.length 0 ++ (laidSs nm ++ (laidB rs.length 0 ++ laidL rs)))) := by
  unfold putP
  simp only [laidL_one, List.append_assoc]
section
variable {ws rs : List Nat} {nm : List (List UInt8)}
theorem get_tail (hw : W64 ws) (hr : W64 rs) (h1 : ws.length ≤ 65536) (h2 : nm.length ≤ 65536) (h3 : rs.length ≤ 65536) {m : Int} (hm : ∀ s ∈ nm, (s.length : Int) ≤ m ∧ s.length < 18446744073709551616) (tl : List UInt8) :
    g2 m (cntP ⟨putP ws nm rs ++ tl, 0, 0, 0⟩ 0) = if tl = [] then some (ws, nm, rs) else none := by
  obtain ⟨B, hB⟩ : ∃ B, putP ws nm rs ++ tl = B := ⟨_, rfl⟩
  have e0 : (⟨B, 0, 0, 0⟩ : TS).bytes.drop 0 = laidB ws.length 0 ++ (laidL ws ++ (laidB nm.length 0 ++ (laidSs nm ++ (laidB rs.length 0 ++ (laidL rs ++ tl))))) := by
    rw [← hB, putP_eq]
    simp
  rw [hB, cntP_at (t := ⟨B, 0, 0, 0⟩) rfl h1 e0]
  have e1 := drop_on (t := ⟨B, 0, 0, 0⟩) e0
  unfold g2
  simp only
  rw [numsP_at ws ⟨B, _, 0, 0⟩ rfl hw e1]
  have e2 := drop_on (t := ⟨B, _, 0, 0⟩) e1
  unfold g3
  simp only
  rw [cntP_at (t := ⟨B, _, 0, 0⟩) rfl h2 e2]
  have e3 := drop_on (t := ⟨B, _, 0, 0⟩) e2
  unfold g4
  simp only
  rw [strsP_at nm ⟨B, _, 0, 0⟩ rfl hm e3]
  have e4 := drop_on (t := ⟨B, _, 0, 0⟩) e3
  unfold g5
  simp only
  rw [cntP_at (t := ⟨B, _, 0, 0⟩) rfl h3 e4]
  have e5 := drop_on (t := ⟨B, _, 0, 0⟩) e4
  unfold g6
  simp only
  rw [numsP_at rs ⟨B, _, 0, 0⟩ rfl hr e5]
  have e6 := drop_on (t := ⟨B, _, 0, 0⟩) e5
  simp only at e6
  unfold TS.end_
  simp only [true_and]
  have hl := congrArg List.length e6
  rw [List.length_drop] at hl
  by_cases ht : tl = []
  · subst ht
    rw [if_pos rfl, if_pos]
    rw [if_neg]
    simp only [List.length_nil] at hl
    omega
  · have : 0 < tl.length := List.length_pos_iff.2 ht
    rw [if_neg ht, if_neg]
    rw [if_pos (by omega)]
    omega
theorem str_in (s : List UInt8) (h : s ∈ nm) : s.length ≤ (laidSs nm).length := by
  induction nm with
  | nil => cases h
  | cons a r ih =>
    have e : laidSs (a :: r) = laidS a ++ laidSs r := rfl
    rw [e, List.length_append]
    rcases List.mem_cons.1 h with rfl | h
    · simp only [laidS, List.length_append]; omega
    · have := ih h; omega
theorem put_len_str (s : List UInt8) (h : s ∈ nm) : s.length ≤ (putP ws nm rs).length := by
  have := str_in s h
  rw [putP_eq]
  simp only [List.length_append]
  omega
/-- What was put is got. -/
theorem get_put (hw : W64 ws) (hr : W64 rs) (h1 : ws.length ≤ 65536) (h2 : nm.length ≤ 65536) (h3 : rs.length ≤ 65536) (ht : textSum nm ≤ 1000000000) (hs : ∀ s ∈ nm, s.length < 18446744073709551616) : getP (putP ws nm rs) = some (ws, nm, rs) := by
  have h := get_tail hw hr h1 h2 h3 (m := ((putP ws nm rs).length : Int)) (fun s h9 => ⟨by have := put_len_str (ws := ws) (rs := rs) s h9; omega, hs s h9⟩) []
  rw [List.append_nil, if_pos rfl] at h
  rw [getP_eq]
  exact h
/-- With one byte more it is none. -/
theorem get_more (hw : W64 ws) (hr : W64 rs) (h1 : ws.length ≤ 65536) (h2 : nm.length ≤ 65536) (h3 : rs.length ≤ 65536) (hs : ∀ s ∈ nm, s.length < 18446744073709551616) (x : UInt8) : getP (putP ws nm rs ++ [x]) = none := by
  have h := get_tail hw hr h1 h2 h3 (m := ((putP ws nm rs ++ [x]).length : Int)) (fun s h9 => ⟨by have := put_len_str (ws := ws) (rs := rs) s h9; rw [List.length_append]; omega, hs s h9⟩) [x]
  rw [if_neg (by simp)] at h
  rw [getP_eq]
  exact h
theorem take_of {α : Type} {a r : List α} {k : Nat} (h : ¬ k < a.length) : (a ++ r).take k = a ++ r.take (k - a.length) := by
  rw [List.take_append, List.take_of_length_le (by omega)]
theorem cut_tail (hw : W64 ws) (hr : W64 rs) (h1 : ws.length ≤ 65536) (h2 : nm.length ≤ 65536) (h3 : rs.length ≤ 65536) {m : Int} (hs : ∀ s ∈ nm, s.length < 18446744073709551616) {k : Nat} (hk : k < (putP ws nm rs).length) (hmm : m = (((putP ws nm rs).take k).length : Int)) :
    g2 m (cntP ⟨(putP ws nm rs).take k, 0, 0, 0⟩ 0) = none := by
  obtain ⟨B, hB⟩ : ∃ B, (putP ws nm rs).take k = B := ⟨_, rfl⟩
  rw [hB] at hmm ⊢
  subst hmm
  rw [putP_eq] at hB hk
  have e0 : (⟨B, 0, 0, 0⟩ : TS).bytes.drop 0 = (laidB ws.length 0 ++ (laidL ws ++ (laidB nm.length 0 ++ (laidSs nm ++ (laidB rs.length 0 ++ laidL rs))))).take k := hB.symm
  by_cases c0 : k < (laidB ws.length 0).length
  · rw [List.take_append_of_le_length (by omega)] at e0
    exact g2_stop (cntP_cut (t := ⟨B, 0, 0, 0⟩) rfl c0 e0)
  rw [take_of c0] at e0
  rw [List.length_append] at hk
  rw [cntP_at (t := ⟨B, 0, 0, 0⟩) rfl h1 e0]
  have e1 := drop_on (t := ⟨B, 0, 0, 0⟩) e0
  obtain ⟨k1, hk1⟩ : ∃ q, k - (laidB ws.length 0).length = q := ⟨_, rfl⟩
  rw [hk1] at e1
  replace hk := (by omega : k1 < (laidL ws ++ (laidB nm.length 0 ++ (laidSs nm ++ (laidB rs.length 0 ++ laidL rs)))).length)
  unfold g2
  simp only
  by_cases c1 : k1 < (laidL ws).length
  · rw [List.take_append_of_le_length (by omega)] at e1
    exact g3_stop (numsP_cut ws ⟨B, _, 0, 0⟩ k1 rfl hw c1 e1)
  rw [take_of c1] at e1
  rw [List.length_append] at hk
  rw [numsP_at ws ⟨B, _, 0, 0⟩ rfl hw e1]
  have e2 := drop_on (t := ⟨B, _, 0, 0⟩) e1
  obtain ⟨k2, hk2⟩ : ∃ q, k1 - (laidL ws).length = q := ⟨_, rfl⟩
  rw [hk2] at e2
  replace hk := (by omega : k2 < (laidB nm.length 0 ++ (laidSs nm ++ (laidB rs.length 0 ++ laidL rs))).length)
  unfold g3
  simp only
  by_cases c2 : k2 < (laidB nm.length 0).length
  · rw [List.take_append_of_le_length (by omega)] at e2
    exact g4_stop (cntP_cut (t := ⟨B, _, 0, 0⟩) rfl c2 e2)
  rw [take_of c2] at e2
  rw [List.length_append] at hk
  rw [cntP_at (t := ⟨B, _, 0, 0⟩) rfl h2 e2]
  have e3 := drop_on (t := ⟨B, _, 0, 0⟩) e2
  obtain ⟨k3, hk3⟩ : ∃ q, k2 - (laidB nm.length 0).length = q := ⟨_, rfl⟩
  rw [hk3] at e3
  replace hk := (by omega : k3 < (laidSs nm ++ (laidB rs.length 0 ++ laidL rs)).length)
  unfold g4
  simp only
  by_cases c3 : k3 < (laidSs nm).length
  · rw [List.take_append_of_le_length (by omega)] at e3
    exact g5_stop (strsP_cut nm ⟨B, _, 0, 0⟩ k3 rfl hs c3 e3)
  rw [take_of c3] at e3
  rw [List.length_append] at hk
  rw [strsP_at nm ⟨B, _, 0, 0⟩ rfl (fun s h9 => ⟨by
    have h8 := str_in s h9
    have h7 := congrArg List.length e3
    rw [List.length_drop, List.length_append] at h7
    simp only at h7
    omega, hs s h9⟩) e3]
  have e4 := drop_on (t := ⟨B, _, 0, 0⟩) e3
  obtain ⟨k4, hk4⟩ : ∃ q, k3 - (laidSs nm).length = q := ⟨_, rfl⟩
  rw [hk4] at e4
  replace hk := (by omega : k4 < (laidB rs.length 0 ++ laidL rs).length)
  unfold g5
  simp only
  by_cases c4 : k4 < (laidB rs.length 0).length
  · rw [List.take_append_of_le_length (by omega)] at e4
    exact g6_stop (cntP_cut (t := ⟨B, _, 0, 0⟩) rfl c4 e4)
  rw [take_of c4] at e4
  rw [List.length_append] at hk
  rw [cntP_at (t := ⟨B, _, 0, 0⟩) rfl h3 e4]
  have e5 := drop_on (t := ⟨B, _, 0, 0⟩) e4
  exact g6_end (numsP_cut rs ⟨B, _, 0, 0⟩ _ rfl hr (by omega) e5)
/-- Cut off it is none. -/
theorem get_cut (hw : W64 ws) (hr : W64 rs) (h1 : ws.length ≤ 65536) (h2 : nm.length ≤ 65536) (h3 : rs.length ≤ 65536) (hs : ∀ s ∈ nm, s.length < 18446744073709551616) {k : Nat} (hk : k < (putP ws nm rs).length) : getP ((putP ws nm rs).take k) = none := by
  rw [getP_eq]
  exact cut_tail hw hr h1 h2 h3 hs hk rfl
end
end
end Go.Proofs.Ytefnjplfemgibaa
