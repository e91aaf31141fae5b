/- The journal of layer 6 in memory; the walks of its functions that only look. -/
import Derived.Test.YtcnhfbckaacalaaDiskO
import Derived.Test.YtcnhfbckaacalaaSealLaw
import Derived.Test.YtcnhfbckaacalaaTapeB
namespace Go.Proofs.Ytcnhfbckaacalaa
open Go.RowKit
set_option linter.unusedVariables false

/-- What a journal is. -/
structure JV where
  from_ : Nat
  len : Nat
  epoch : Nat
  life : Nat
  stream : List UInt8
  safe : Nat
  records : Nat
  broken : Bool
def jcells (pd : Nat) (J : JV) (v : Value) : Array Value := #[.pointer (some ⟨pd, 0, none⟩), .int .i64 (J.from_ : Int), .int .i64 (J.len : Int), .int .i64 (J.epoch : Int), .int .i64 (J.life : Int), v, .int .i64 (J.safe : Int), .int .i64 (J.records : Int), .bool J.broken]
/-- Bytes that may be appended to: a row of the call's own, or a slice without room. -/
def StrAt (w : World) (v : Value) (l : List UInt8) : Prop :=
  w.ownsRow 0 5 1 v l.length (l.map bv) ∨ ∃ A, v = .slice A l.length l.length ∧ Rd w A l ∧ ∀ k, v.ownBlock = some k → k < w.heap.size
theorem StrAt.form {w : World} {v : Value} {l : List UInt8} (h : StrAt w v l) (hl : l.length ≤ 1000000000) : ∃ A c, v = .slice A l.length c ∧ Rd w A l ∧ l.length ≤ c ∧ c ≤ 9223372036854775807 := by
  rcases h with h | ⟨A, hv, hr, _⟩
  · obtain ⟨A, c, hv, hr, _, hc⟩ := own_rd h
    refine ⟨A, c, hv, hr, hc, ?_⟩
    rcases h.2 with ⟨hv2, _⟩ | ⟨g, cap, cur, hv2, _, _, _, h10, _⟩
    · rw [hv] at hv2
      have := (Value.slice.inj hv2).2.2; omega
    · rw [hv] at hv2
      have := (Value.slice.inj hv2).2.2; unfold maxLen at h10; omega
  · exact ⟨A, l.length, hv, hr, Nat.le_refl _, by omega⟩
theorem StrAt.lt {w : World} {v : Value} {l : List UInt8} (h : StrAt w v l) : ∀ k, v.ownBlock = some k → k < w.heap.size := by
  rcases h with h | ⟨A, hv, hr, hk⟩
  · exact fun k hk => (World.ownsRow.lt h k hk).2
  · exact hk
theorem StrAt.far {F : Nat → Prop} {w w' : World} {v : Value} {l : List UInt8} (h : StrAt w v l) (hf : Fr F w w') (hF : ∀ k, v.ownBlock = some k → ¬ F k) : StrAt w' v l := by
  rcases h with h | ⟨A, hv, hr, hk⟩
  · refine .inl ⟨h.1, ?_⟩
    rcases h.2 with hn | ⟨g, cap', cur, hv, hb, hh, rest⟩
    · exact .inl hn
    · have hg := (World.ownsRow.lt h g (by rw [hv]; rfl)).2
      exact .inr ⟨g, cap', cur, hv, hb, (hf.block g hg (hF g (by rw [hv]; rfl))).trans hh, rest⟩
  · refine .inr ⟨A, hv, hf.rd hr (fun b off e _ => hF b (by rw [hv, e]; rfl)), fun k e => ?_⟩
    have := hk k e
    have := hf.size
    omega
theorem StrAt.keep {w w' : World} {v : Value} {l : List UInt8} (h : StrAt w v l) (hb : Below w.heap.size w w') : StrAt w' v l := h.far (Fr.of_below hb (fun _ => False)) (fun _ _ e => e)

structure JOk (J : JV) (D : DS) : Prop where
  area : J.from_ + J.len ≤ D.nb
  l1 : 1 ≤ J.len
  l2 : J.len ≤ 16384
  ep : J.epoch ≤ 16777215
  lf1 : 1 ≤ J.life
  lf2 : J.life ≤ 1048575
  safe : J.safe ≤ J.stream.length
  room : J.stream.length ≤ J.len * (D.size - 15)
  recs : J.records ≤ J.stream.length
theorem JOk.len {J : JV} {D : DS} (h : JOk J D) (ok : D.Ok) : J.stream.length ≤ 67108864 := by
  have := h.room
  have h2 := h.l2
  have h3 := ok.s2
  have : J.len * (D.size - 15) ≤ 16384 * 4096 := Nat.mul_le_mul h2 (by omega)
  omega
/-- A world from which on nothing turns, but for some blocks. -/
structure Bas where
  w : World
  X : Nat → Prop
def Bas.Q (b : Bas) (k : Nat) : Prop := b.w.heap.size ≤ k ∨ b.X k
def bas (w : World) : Bas := ⟨w, fun _ => False⟩
instance : Coe World Bas := ⟨bas⟩
theorem Fr.join {b : Bas} {w w' : World} {F : Nat → Prop} (h : Fr b.X b.w w) (k : Fr F w w') (hF : ∀ i, F i → b.Q i) : Fr b.X b.w w' := h.trans k (fun i hi g => by
  rcases hF i g with h9 | h9
  · omega
  · exact h9)
theorem Fr.step {b : Bas} {w w' : World} (h : Fr b.X b.w w) (hb : Below w.heap.size w w') : Fr b.X b.w w' := h.join (Fr.of_below hb (fun _ => False)) (fun _ e => e.elim)
/-- A journal and its disk, both of the call's own. -/
structure JD (w0 : Bas) (pj : Nat) (v : Value) (J : JV) (pd : Nat) (p : Pl) (D : DS) (w : World) : Prop where
  disk : DiskAt pd p D w
  obj : Blk w pj 74 (jcells pd J v)
  str : StrAt w v J.stream
  belx : Fr w0.X w0.w w
  lo : w0.Q pj
  loV : ∀ k, v.ownBlock = some k → w0.Q k
  loD : ∀ k, p.F pd k → w0.Q k
  sep : ¬ p.F pd pj
  sepV : ∀ k, v.ownBlock = some k → ¬ p.F pd k ∧ k ≠ pj
  ok : D.Ok
  jok : JOk J D
section
variable {w0 : Bas} {w w' : World} {pj pd : Nat} {v : Value} {J : JV} {p : Pl} {D : DS}
theorem JD.keep (h : JD w0 pj v J pd p D w) (hb : Below w.heap.size w w') : JD w0 pj v J pd p D w' :=
  ⟨h.disk.keep hb, h.obj.keep hb, h.str.keep hb, h.belx.step hb, h.lo, h.loV, h.loD, h.sep, h.sepV, h.ok, h.jok⟩
theorem JD.bel {w V : World} (h : JD (bas w) pj v J pd p D V) : Below w.heap.size w V := h.belx.below (Nat.le_refl _) (fun k e => e.elim)
theorem JD.drewN (h : JD w0 pj v J pd p D w) (q : Nat) : JD w0 pj v J pd p D (w.drewN q) := h.keep (below_drewN (Below.refl _ _) q)
theorem JD.cells (h : JD w0 pj v J pd p D w) : w.cell? ⟨pj, 0, none⟩ = some (.pointer (some ⟨pd, 0, none⟩)) ∧ w.cell? ⟨pj, 1, none⟩ = some (.int .i64 (J.from_ : Int)) ∧ w.cell? ⟨pj, 2, none⟩ = some (.int .i64 (J.len : Int)) ∧ w.cell? ⟨pj, 3, none⟩ = some (.int .i64 (J.epoch : Int)) ∧ w.cell? ⟨pj, 4, none⟩ = some (.int .i64 (J.life : Int)) ∧ w.cell? ⟨pj, 5, none⟩ = some v ∧ w.cell? ⟨pj, 6, none⟩ = some (.int .i64 (J.safe : Int)) ∧ w.cell? ⟨pj, 7, none⟩ = some (.int .i64 (J.records : Int)) ∧ w.cell? ⟨pj, 8, none⟩ = some (.bool J.broken) :=
  ⟨h.obj.cell 0, h.obj.cell 1, h.obj.cell 2, h.obj.cell 3, h.obj.cell 4, h.obj.cell 5, h.obj.cell 6, h.obj.cell 7, h.obj.cell 8⟩

set_option maxHeartbeats 400000 in
theorem jroom_any (h : JD w0 pj v J pd p D w) : Calls Try.prog 46 #[.pointer (some ⟨pj, 0, none⟩)] w fun e w' => e = .returned (.int .i64 ((D.size - 15 : Nat) : Int)) ∧ w = w' := by
  have HS := Lib.hid (size_any h.disk)
  have h1 := h.ok.s1
  have h2 := h.ok.s2
  have HR : Hid (∀ V, Calls Try.prog 65 #[.int .i64 (D.size : Int)] V fun e w' => e = .returned (.int .i64 ((D.size - 15 : Nat) : Int)) ∧ V = w') := fun V => (room_any _ V).mono fun e w' ⟨he, hw⟩ => ⟨by rw [he, room_is h1 h2]; congr 2; omega, hw⟩
  have c0 := h.cells.1
  go_enter Try.func46, Try.ntmps46
  go_wp2_with (first
    | (go_at_call 66; refine HS.out.mono ?_; rintro e w1 ⟨rfl, rfl⟩)
    | (go_at_call 65; refine (HR.out _).mono ?_; rintro e w1 ⟨rfl, rfl⟩))
  go_ret
  exact ⟨rfl, rfl⟩
set_option maxHeartbeats 400000 in
theorem jready_any (h : JD w0 pj v J pd p D w) (eb : Nat) (heb : eb = if J.broken then 61 else 0) : Calls Try.prog 48 #[.pointer (some ⟨pj, 0, none⟩)] w fun e w' => e = .returned (.int .i64 (eb : Int)) ∧ w = w' := by
  obtain ⟨c0, c1, c2, c3, c4, c5, c6, c7, c8⟩ := h.cells
  subst heb
  cases hb : J.broken with
  | true =>
    rw [hb] at c8
    go_enter Try.func48, Try.ntmps48
    go_wp2
    go_ret
    exact ⟨rfl, rfl⟩
  | false =>
    rw [hb] at c8
    go_enter Try.func48, Try.ntmps48
    go_wp2
    go_ret
    exact ⟨rfl, rfl⟩
set_option maxHeartbeats 400000 in
theorem jused_any (h : JD w0 pj v J pd p D w) : Calls Try.prog 15 #[.pointer (some ⟨pj, 0, none⟩)] w fun e w' => e = .returned (.int .i64 (J.stream.length : Int)) ∧ w = w' := by
  obtain ⟨c0, c1, c2, c3, c4, c5, c6, c7, c8⟩ := h.cells
  have hl := h.jok.len h.ok
  obtain ⟨A, c, rfl, _⟩ := h.str.form (by omega)
  go_enter Try.func15, Try.ntmps15
  go_wp2
  go_ret
  exact ⟨rfl, rfl⟩
set_option maxHeartbeats 400000 in
theorem jsafe_any (h : JD w0 pj v J pd p D w) : Calls Try.prog 18 #[.pointer (some ⟨pj, 0, none⟩)] w fun e w' => e = .returned (.int .i64 (J.safe : Int)) ∧ w = w' := by
  obtain ⟨c0, c1, c2, c3, c4, c5, c6, c7, c8⟩ := h.cells
  go_enter Try.func18, Try.ntmps18
  go_wp2
  go_ret
  exact ⟨rfl, rfl⟩
set_option maxHeartbeats 400000 in
theorem jrecords_any (h : JD w0 pj v J pd p D w) : Calls Try.prog 20 #[.pointer (some ⟨pj, 0, none⟩)] w fun e w' => e = .returned (.int .i64 (J.records : Int)) ∧ w = w' := by
  obtain ⟨c0, c1, c2, c3, c4, c5, c6, c7, c8⟩ := h.cells
  go_enter Try.func20, Try.ntmps20
  go_wp2
  go_ret
  exact ⟨rfl, rfl⟩
/-- How many bytes more go into the area. -/
def JV.left (J : JV) (D : DS) : Nat := J.len * (D.size - 15) - J.stream.length
set_option maxHeartbeats 1000000 in
theorem jleft_any (h : JD w0 pj v J pd p D w) : Calls Try.prog 13 #[.pointer (some ⟨pj, 0, none⟩)] w fun e w' => e = .returned (.int .i64 (J.left D : Int)) ∧ ∃ q, w' = w.drewN q := by
  have HR := Lib.hid (fun q => jroom_any (h.drewN q))
  obtain ⟨c0, c1, c2, c3, c4, c5, c6, c7, c8⟩ := h.cells
  have hl := h.jok.len h.ok
  have hro := h.jok.room
  have hl2 := h.jok.l2
  have hs2 := h.ok.s2
  obtain ⟨A, c, rfl, _⟩ := h.str.form (by omega)
  have hm : J.len * (D.size - 15) ≤ 16384 * 4096 := Nat.mul_le_mul hl2 (by omega)
  have HE := Lib.hid (show ((J.len * (D.size - 15) - J.stream.length : Nat) : Int) = (J.len : Int) * ((D.size - 15 : Nat) : Int) - (J.stream.length : Int) by rw [Int.ofNat_sub hro]; push_cast; rfl)
  have q1 : IntKind.i64.wrap ((J.len : Int) * ((D.size - 15 : Nat) : Int)) = (J.len : Int) * ((D.size - 15 : Nat) : Int) := by
    rw [← Int.natCast_mul]; exact IntWalk.i64_in _ (by omega)
  have q2 : IntKind.i64.wrap ((J.len : Int) * ((D.size - 15 : Nat) : Int) - (J.stream.length : Int)) = (J.len : Int) * ((D.size - 15 : Nat) : Int) - (J.stream.length : Int) := by
    rw [← Int.natCast_mul]; exact IntWalk.i64_in _ (by omega)
  have HL := Lib.hid (show J.left D = J.len * (D.size - 15) - J.stream.length from rfl)
  generalize J.left D = lf at *
  generalize hrm : D.size - 15 = rm at *
  clear hrm
  go_enter Try.func13, Try.ntmps13
  go_wp2
  go_quiet ((go_at_call 46; exact Calls.quiet_of_same ((HR.out _).mono fun e w' ⟨he, hw⟩ => ⟨he, hw.symm⟩)))
  go_wp2
  go_ret
  rw [HL.out, HE.out]
  exact ⟨rfl, _, rfl⟩
end
end Go.Proofs.Ytcnhfbckaacalaa
