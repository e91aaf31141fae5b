/- A tape in memory; the walks of Open, stops, runs, cut, Pos, Rest, Fault, End of layer 1. -/
import Derived.Test.YtefnjplfemgibaaProg
import Derived.Test.YtefnjplfemgibaaSpA
import Derived.Test.YtefnjplfemgibaaFr
import Derived.Test.YtefnjplfemgibaaLibA
import Derived.Deep.QuietTactic
import Derived.BigQuiet
import Derived.IntWalk
import Derived.Outline
import Derived.Deep.Cut
import Derived.Deep.DeepMust
namespace Go.Proofs.Ytefnjplfemgibaa
open Go.RowKit
set_option linter.unusedVariables false

structure TS where
  bytes : List UInt8
  pos : Nat
  fault : Nat
  spot : Nat
structure TapeAt (pt : Nat) (A : Option Addr) (c : Nat) (t : TS) (w : World) : Prop where
  obj : Blk w pt 125 #[.slice A t.bytes.length c, .int .i64 (t.pos : Int), .int .i64 (t.fault : Int), .int .i64 (t.spot : Int)]
  rd : Rd w A t.bytes
  ne : ∀ b off, A = some ⟨b, off, none⟩ → b ≠ pt
  cap : t.bytes.length ≤ c
  capm : c ≤ 9223372036854775807
  pos : t.pos ≤ t.bytes.length
  flt : t.fault ≤ 1000
  spt : t.spot ≤ t.bytes.length

section
variable {pt : Nat} {A : Option Addr} {c : Nat} {t : TS} {w w' : World}
theorem TapeAt.cells (h : TapeAt pt A c t w) : w.cell? ⟨pt, 0, none⟩ = some (.slice A t.bytes.length c) ∧ w.cell? ⟨pt, 1, none⟩ = some (.int .i64 (t.pos : Int)) ∧ w.cell? ⟨pt, 2, none⟩ = some (.int .i64 (t.fault : Int)) ∧ w.cell? ⟨pt, 3, none⟩ = some (.int .i64 (t.spot : Int)) :=
  ⟨h.obj.cell 0, h.obj.cell 1, h.obj.cell 2, h.obj.cell 3⟩
theorem TapeAt.keep (h : TapeAt pt A c t w) (hb : Below w.heap.size w w') : TapeAt pt A c t w' := ⟨h.obj.keep hb, h.rd.below hb, h.ne, h.cap, h.capm, h.pos, h.flt, h.spt⟩
theorem TapeAt.far {F : Nat → Prop} (h : TapeAt pt A c t w) (hf : Fr F w w') (h1 : ¬ F pt) (h2 : ∀ b off, A = some ⟨b, off, none⟩ → ¬ F b) : TapeAt pt A c t w' :=
  ⟨hf.blk h.obj h1, hf.rd h.rd (fun b off e _ => h2 b off e), h.ne, h.cap, h.capm, h.pos, h.flt, h.spt⟩
/-- What an act on a tape leaves. -/
structure TAct (w : World) (pt : Nat) (A : Option Addr) (c : Nat) (t' : TS) (w' : World) : Prop where
  tape : TapeAt pt A c t' w'
  fr : Fr (fun k => k = pt) w w'
theorem TapeAt.rd_set (h : TapeAt pt A c t w) (i : Nat) (v : Value) : Rd (w.setCell ⟨pt, i, none⟩ v) A t.bytes :=
  (Fr.setCell (fun k => k = pt) w (p := ⟨pt, i, none⟩) (fun _ => rfl) v).rd h.rd (fun b off e _ => h.ne b off e)

def TS.stops (t : TS) (e at_ : Nat) : TS := { t with fault := e, spot := at_, pos := at_ }

set_option maxHeartbeats 400000 in
theorem stops_any (h : TapeAt pt A c t w) (e a : Nat) (he : e ≤ 1000) (ha : a ≤ t.bytes.length) :
    Calls Try.prog 82 #[.pointer (some ⟨pt, 0, none⟩), .int .i64 e, .int .i64 a] w fun r w' => r = .returned (.tuple #[]) ∧ TAct w pt A c (t.stops e a) w' := by
  obtain ⟨c0, c1, c2, c3⟩ := h.cells
  have f1 := h.obj.frozen 1
  have f2 := h.obj.frozen 2
  have f3 := h.obj.frozen 3
  have HA : Hid (TAct w pt A c (t.stops e a) (((w.setCell ⟨pt, 2, none⟩ (.int .i64 (e : Int))).setCell ⟨pt, 3, none⟩ (.int .i64 (a : Int))).setCell ⟨pt, 1, none⟩ (.int .i64 (a : Int)))) := by
    have hfr := ((Fr.setCell (fun k => k = pt) w (p := ⟨pt, 2, none⟩) (fun _ => rfl) (.int .i64 (e : Int))).same (Fr.setCell (fun k => k = pt) _ (p := ⟨pt, 3, none⟩) (fun _ => rfl) (.int .i64 (a : Int)))).same (Fr.setCell (fun k => k = pt) _ (p := ⟨pt, 1, none⟩) (fun _ => rfl) (.int .i64 (a : Int)))
    exact ⟨⟨((h.obj.set_ 2 _).set_ 3 _).set_ 1 _, hfr.rd h.rd (fun b off e _ => h.ne b off e), h.ne, h.cap, h.capm, ha, he, ha⟩, hfr⟩
  go_enter Try.func82, Try.ntmps82
  go_wp2
  go_end0
  exact ⟨rfl, HA.out⟩

set_option maxHeartbeats 400000 in
theorem runs_any (h : TapeAt pt A c t w) : Calls Try.prog 81 #[.pointer (some ⟨pt, 0, none⟩)] w fun r w' => r = .returned (.bool (t.fault == 0)) ∧ w = w' := by
  obtain ⟨c0, c1, c2, c3⟩ := h.cells
  have HE := Lib.hid (show ((t.fault : Int) == 0) = (t.fault == 0) by rw [Bool.eq_iff_iff]; simp)
  go_enter Try.func81, Try.ntmps81
  go_wp2
  go_ret
  exact ⟨by rw [← HE.out]; rfl, rfl⟩
theorem runs_nil (w : World) : Calls Try.prog 81 #[.pointer none] w fun r w' => r = .returned (.bool false) ∧ w = w' := by
  go_enter Try.func81, Try.ntmps81
  go_wp2
  go_ret
  exact ⟨rfl, rfl⟩

theorem drew_tact (h : TapeAt pt A c t w) (q : Nat) : TAct w pt A c t (w.drewN q) := ⟨h.keep (below_drewN (Below.refl _ _) q), Fr.of_below (below_drewN (Below.refl _ _) q) _⟩
theorem TAct.trans {t2 t3 : TS} {w2 w3 : World} (a : TAct w pt A c t2 w2) (b : TAct w2 pt A c t3 w3) : TAct w pt A c t3 w3 := ⟨b.tape, a.fr.same b.fr⟩

set_option maxHeartbeats 600000 in
theorem cut_short (h : TapeAt pt A c t w) (n a : Nat) (hn : t.bytes.length - t.pos < n) (hn2 : n ≤ 9223372036854775807) (ha : a ≤ t.bytes.length) :
    Calls Try.prog 83 #[.pointer (some ⟨pt, 0, none⟩), .int .i64 n, .int .i64 a] w fun r w' => r = .returned (.tuple #[.slice none 0 0, .bool false]) ∧ TAct w pt A c (t.stops 3 a) w' := by
  obtain ⟨c0, c1, c2, c3⟩ := h.cells
  have hp := h.pos
  have hcap := h.cap
  have hcm := h.capm
  have q1 : IntKind.i64.wrap ((t.bytes.length : Int) - (t.pos : Int)) = (t.bytes.length : Int) - (t.pos : Int) := IntWalk.i64_in _ (by omega)
  have q2 : decide ((t.bytes.length : Int) - (t.pos : Int) < (n : Int)) = true := by simp; omega
  have HS := Lib.hid (fun q => (stops_any (h.keep (below_drewN (Below.refl _ _) q)) 3 a (by omega) ha))
  go_enter Try.func83, Try.ntmps83
  go_wp2
  go_quiet (fail)
  go_wp2_with (go_at_call 82; refine (HS.out _).mono ?_; rintro e w2 ⟨rfl, hA2⟩)
  go_ret2
  exact ⟨rfl, (drew_tact h _).trans hA2⟩

def CutEnds (w : World) (pt : Nat) (A : Option Addr) (c : Nat) (t : TS) (n : Nat) (r : Ending) (w' : World) : Prop :=
  ∃ B c', r = .returned (.tuple #[.slice B n c', .bool true]) ∧ Rd w' B ((t.bytes.drop t.pos).take n) ∧ TAct w pt A c { t with pos := t.pos + n } w'
theorem rd_part {l : List UInt8} (h : Rd w A l) (p n : Nat) : Rd w (A.map fun x => x.add p) ((l.drop p).take n) := by
  rcases h with rfl | ⟨b, off, rfl, hc⟩
  · exact .inl (by simp)
  · refine .inr ⟨b, off + p, by simp [Addr.add_lit], fun j hj => ?_⟩
    simp at hj
    rw [Nat.add_assoc, hc (p + j) (by omega)]
    simp
theorem cut_act (h : TapeAt pt A c t w) (n q : Nat) (hn : n ≤ t.bytes.length - t.pos) : TAct w pt A c { t with pos := t.pos + n } ((w.drewN q).setCell ⟨pt, 1, none⟩ (.int .i64 ((t.pos : Int) + (n : Int)))) := by
  have h2 := h.keep (below_drewN (Below.refl _ _) q)
  have hp := h.pos
  have e : ((t.pos : Int) + (n : Int)) = ((t.pos + n : Nat) : Int) := by omega
  rw [e]
  exact ⟨⟨h2.obj.set_ 1 _, h2.rd_set 1 _, h.ne, h.cap, h.capm, by show t.pos + n ≤ t.bytes.length; omega, h.flt, h.spt⟩, (Fr.of_below (below_drewN (Below.refl _ _) q) _).same (Fr.setCell (fun k => k = pt) _ (p := ⟨pt, 1, none⟩) (fun _ => rfl) _)⟩

set_option maxHeartbeats 600000 in
theorem cut_ok (h : TapeAt pt A c t w) (n a : Nat) (hn : n ≤ t.bytes.length - t.pos) (ha : a ≤ t.bytes.length) :
    Calls Try.prog 83 #[.pointer (some ⟨pt, 0, none⟩), .int .i64 n, .int .i64 a] w (CutEnds w pt A c t n) := by
  obtain ⟨c0, c1, c2, c3⟩ := h.cells
  have f1 := h.obj.frozen 1
  have hp := h.pos
  have hcap := h.cap
  have hcm := h.capm
  have q1 : IntKind.i64.wrap ((t.bytes.length : Int) - (t.pos : Int)) = (t.bytes.length : Int) - (t.pos : Int) := IntWalk.i64_in _ (by omega)
  have q2 : decide ((t.bytes.length : Int) - (t.pos : Int) < (n : Int)) = false := by simp; omega
  have q3 : IntKind.i64.wrap ((t.pos : Int) + (n : Int)) = (t.pos : Int) + (n : Int) := IntWalk.i64_in _ (by omega)
  have q4 : (t.pos : Int) ≤ (t.pos : Int) + (n : Int) := by omega
  have q5 : (t.pos : Int) + (n : Int) ≤ (c : Int) := by omega
  have q6 : (0 : Int) ≤ (t.pos : Int) := by omega
  have q7 : ((t.pos : Int) + (n : Int)).toNat = t.pos + n := by omega
  have q8 : t.pos + n - t.pos = n := by omega
  have HC := Lib.hid (fun q => cut_act h n q hn)
  have HRP := Lib.hid (fun q => rd_part (cut_act h n q hn).tape.rd t.pos n)
  go_enter Try.func83, Try.ntmps83
  go_wp2
  go_quiet (fail)
  go_wp2
  go_quiet (fail)
  go_wp2
  · go_ret2
    have hcp : c = t.pos := by assumption
    have h9 : ∀ q, TAct w pt A t.pos { t with pos := t.pos + n } ((w.drewN q).setCell ⟨pt, 1, none⟩ (.int .i64 ((t.pos : Int) + (n : Int)))) := fun q => by
      have := HC.out q
      rwa [hcp] at this
    refine ⟨A, _, rfl, .inl ?_, h9 _⟩
    have hn0 : n = 0 := by omega
    rw [hn0]
    simp
  · go_ret2
    exact ⟨_, _, rfl, HRP.out _, HC.out _⟩

set_option maxHeartbeats 400000 in
theorem pos_any (h : TapeAt pt A c t w) : Calls Try.prog 80 #[.pointer (some ⟨pt, 0, none⟩)] w fun r w' => r = .returned (.int .i64 t.pos) ∧ w = w' := by
  obtain ⟨c0, c1, c2, c3⟩ := h.cells
  go_enter Try.func80, Try.ntmps80
  go_wp2
  go_ret
  exact ⟨rfl, rfl⟩
theorem pos_nil (w : World) : Calls Try.prog 80 #[.pointer none] w fun r w' => r = .returned (.int .i64 0) ∧ w = w' := by
  go_enter Try.func80, Try.ntmps80
  go_wp2
  go_ret
  exact ⟨rfl, rfl⟩
set_option maxHeartbeats 400000 in
theorem rest_any (h : TapeAt pt A c t w) : Calls Try.prog 84 #[.pointer (some ⟨pt, 0, none⟩)] w fun r w' => r = .returned (.int .i64 ((t.bytes.length - t.pos : Nat) : Int)) ∧ ∃ q, w' = w.drewN q := by
  obtain ⟨c0, c1, c2, c3⟩ := h.cells
  have hp := h.pos
  have hcap := h.cap
  have hcm := h.capm
  have q1 : IntKind.i64.wrap ((t.bytes.length : Int) - (t.pos : Int)) = (t.bytes.length : Int) - (t.pos : Int) := IntWalk.i64_in _ (by omega)
  have HE := Lib.hid (show ((t.bytes.length : Int) - (t.pos : Int)) = ((t.bytes.length - t.pos : Nat) : Int) by omega)
  go_enter Try.func84, Try.ntmps84
  go_wp2
  go_quiet (fail)
  go_wp2
  go_ret
  exact ⟨by rw [← HE.out]; rfl, _, rfl⟩
theorem rest_nil (w : World) : Calls Try.prog 84 #[.pointer none] w fun r w' => r = .returned (.int .i64 0) ∧ w = w' := by
  go_enter Try.func84, Try.ntmps84
  go_wp2
  go_ret
  exact ⟨rfl, rfl⟩
set_option maxHeartbeats 400000 in
theorem fault_any (h : TapeAt pt A c t w) : Calls Try.prog 43 #[.pointer (some ⟨pt, 0, none⟩)] w fun r w' => r = .returned (.tuple #[.int .i64 t.fault, .int .i64 t.spot]) ∧ ∃ q, w' = w.drewN q := by
  obtain ⟨c0, c1, c2, c3⟩ := h.cells
  go_enter Try.func43, Try.ntmps43
  go_wp2
  go_quiet (fail)
  go_wp2
  go_ret2
  exact ⟨rfl, _, rfl⟩
theorem fault_nil (w : World) : Calls Try.prog 43 #[.pointer none] w fun r w' => r = .returned (.tuple #[.int .i64 0, .int .i64 0]) ∧ w = w' := by
  go_enter Try.func43, Try.ntmps43
  go_wp2
  go_ret2
  exact ⟨rfl, rfl⟩
end
end Go.Proofs.Ytefnjplfemgibaa
