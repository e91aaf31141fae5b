/- Plain laws of a journal on a disk whose power stays on. No program is named here. -/
import Derived.Test.YtcnhfbckaacalaaJouT
namespace Go.Proofs.Ytcnhfbckaacalaa
open Go.RowKit
set_option linter.unusedVariables false

/-- A journal on a disk whose power stays on: its records, so many of which are surely found again. -/
structure JOn (fr len ep life nb : Nat) (D : DS) (J : JV) (all : List (List UInt8)) (c : Nat) : Prop where
  st : JSt D J all c
  set : JSet J D
  off : D.off = false
  left : D.left = -1
  brk : J.broken = false
  from_ : J.from_ = fr
  len_ : J.len = len
  epoch : J.epoch = ep
  life_ : J.life = life
  size : D.size = 64
  nb_ : D.nb = nb
  other : ∀ e i, ep < e → i < len → jcell D fr e i = none
section
variable {fr len ep life nb c : Nat} {D : DS} {J : JV} {all : List (List UInt8)}
theorem JOn.left_ (h : JOn fr len ep life nb D J all c) : J.left D = len * 49 - J.stream.length := by unfold JV.left; rw [h.len_, h.size]
theorem JOn.app (h : JOn fr len ep life nb D J all c) (hj : JOk J D) (ok : D.Ok) {p : List UInt8} (hp : p.length < 18446744073709551616) (hlg : D.log.length + len ≤ 1000000) :
    (J.left D < (laidS p).length ∧ J.app D p = (60, J, D)) ∨
    ((laidS p).length ≤ J.left D ∧ ∃ J' D', J.app D p = (0, J', D') ∧ JOn fr len ep life nb D' J' (all ++ [p]) c ∧ J'.stream = J.stream ++ laidS p ∧ D'.log.length ≤ D.log.length + len ∧ J'.safe ≤ max J.safe ((J.stream.length + (laidS p).length) / 49 * 49)) := by
  by_cases hl : J.left D < (laidS p).length
  · left
    refine ⟨hl, ?_⟩
    unfold JV.app
    rw [if_neg (by rw [h.brk]; simp), if_pos hl]
  · right
    refine ⟨by omega, (J.app D p).2.1, (J.app D p).2.2, ?_⟩
    rcases app_law h.st hj ok hp (by rw [h.len_]; exact hlg) with ⟨h1, h2, h3⟩ | ⟨h1, h2, h3, h4, h5, h6, h7, h8, h9⟩
    · rcases h3 with h3 | h3
      · rw [h.brk] at h3; cases h3
      · exact absurd h3 hl
    · obtain ⟨k1, k2, k3⟩ := h7 h.off h.left
      refine ⟨by rw [← k1], ⟨h3, h8, k2, h4.left h.left, k3, h4.from_.trans h.from_, h4.len.trans h.len_, h4.epoch.trans h.epoch, h4.life.trans h.life_, h4.size.trans h.size, h4.nb.trans h.nb_, fun e i h10 h11 => ?_⟩, h5, by have := h4.log; rw [h.len_] at this; exact this, by rw [h.size] at h9; exact h9⟩
      have h12 := h4.cells e i (by rw [h.epoch]; omega) (by rw [h.len_]; exact h11)
      rw [h.from_] at h12
      exact h12 (h.other e i h10 h11)
theorem JOn.flush (h : JOn fr len ep life nb D J all c) (hj : JOk J D) (ok : D.Ok) (hlg : D.log.length + 1 ≤ 1000000) :
    ∃ J' D', J.flush D = (0, J', D') ∧ JOn fr len ep life nb D' J' all all.length ∧ J'.safe = J'.stream.length ∧ J'.stream = J.stream ∧ D'.log.length ≤ D.log.length + 1 := by
  obtain ⟨h1, h2, h3, h4, h5, h6, h7⟩ := flush_law h.st hj ok h.set hlg
  obtain ⟨k1, k2⟩ := h6 h.off h.left h.brk
  obtain ⟨k3, k4⟩ := h5 k1
  rw [if_pos k1] at h1
  refine ⟨(J.flush D).2.1, (J.flush D).2.2, by rw [← k1], ⟨h1, h7, k2, h2.left h.left, k4, h2.from_.trans h.from_, h2.len.trans h.len_, h2.epoch.trans h.epoch, h2.life.trans h.life_, h2.size.trans h.size, h2.nb.trans h.nb_, fun e i h10 h11 => ?_⟩, by rw [k3, h3], h3, h2.log⟩
  have h12 := h2.cells e i (by rw [h.epoch]; omega) (by rw [h.len_]; exact h11)
  rw [h.from_] at h12
  exact h12 (h.other e i h10 h11)
theorem JOn.opened (h : JOn fr len ep life nb D J all c) (hj : JOk J D) : ∃ RS lf k, jread D fr ep len 0 0 [] = (RS, lf) ∧ lf ≤ life ∧ jopenRecs RS = (all.take k, (laidSs (all.take k)).length) ∧ c ≤ k ∧ k ≤ all.length ∧
    JOn fr len ep (lf + 1) nb D ⟨fr, len, ep, lf + 1, RS.take (laidSs (all.take k)).length, (laidSs (all.take k)).length, (all.take k).length, false⟩ (all.take k) k := by
  obtain ⟨RS, lf, k, h1, h2, h3, h4, h5, h6, h7⟩ := h.st.opened hj
  rw [h.from_, h.len_, h.epoch] at h1 h7
  rw [h.life_] at h2
  exact ⟨RS, lf, k, h1, h2, h3, h4, h5, ⟨h7, .inl (by show _ / _ = (RS.take _).length / _; rw [h6]), h.off, h.left, rfl, rfl, rfl, rfl, rfl, h.size, h.nb_, h.other⟩⟩
/-- Another epoch begun. -/
theorem JOn.begun (h : JOn fr len ep life nb D J all c) : JOn fr len (ep + 1) 1 nb D ⟨fr, len, ep + 1, 1, [], 0, 0, false⟩ [] 0 := by
  obtain ⟨h1, h2, h3⟩ := blank_law D fr len (ep + 1) (fun i hi => h.other (ep + 1) i (by omega) hi)
  exact ⟨h3, .inl (by show 0 / _ = [].length / _; rfl), h.off, h.left, rfl, rfl, rfl, rfl, rfl, h.size, h.nb_, fun e i he hi => h.other e i (by omega) hi⟩
theorem JOn.blank (h : JOn fr len ep life nb D J all c) {e : Nat} (he : ep < e) : jread D fr e len 0 0 [] = ([], 0) ∧ jopenRecs [] = ([], 0) := by
  obtain ⟨h1, h2, h3⟩ := blank_law D fr len e (fun i hi => h.other e i he hi)
  exact ⟨h1, h2⟩
theorem JOn.beginNo (h : JOn fr len ep life nb D J all c) {e : Int} (he : e ≤ ep) : J.begin e = (2, J) := by
  unfold JV.begin
  rw [if_pos (.inl (by rw [h.epoch]; exact he))]
theorem JOn.beginYes (h : JOn fr len ep life nb D J all c) (he : ep + 1 ≤ 16777215) : J.begin ((ep + 1 : Nat) : Int) = (0, ⟨fr, len, ep + 1, 1, [], 0, 0, false⟩) := by
  unfold JV.begin
  rw [if_neg (by rw [h.epoch]; omega), h.from_, h.len_]
  rfl
/-- A disk that is new. -/
theorem jon_fresh (fr len ep nb : Nat) (h : fr + len ≤ nb) (hn : nb ≤ 16384) : jread (DS.fresh nb 64) fr ep len 0 0 [] = ([], 0) ∧ jopenRecs [] = ([], 0) ∧ JOn fr len ep 1 nb (DS.fresh nb 64) ⟨fr, len, ep, 1, [], 0, 0, false⟩ [] 0 := by
  obtain ⟨h1, h2, h3⟩ := blank_law (DS.fresh nb 64) fr len ep (fun i hi => jcell_fresh ep (by omega) hn)
  exact ⟨h1, h2, h3, .inl (by show 0 / _ = [].length / _; rfl), rfl, rfl, rfl, rfl, rfl, rfl, rfl, rfl, rfl, fun e i _ hi => jcell_fresh e (by omega) hn⟩
end
theorem Recs.at_ {base : Nat} {w : World} {A : Option Addr} {n c : Nat} {rs : List (List UInt8)} {vals : List Value} (h : Recs base w (.slice A n c) rs vals) (j : Nat) (hj : j < rs.length) : ∃ g B cB, A = some ⟨g, 0, none⟩ ∧ w.cell? ⟨g, j, none⟩ = some (.slice B (rs[j]).length cB) ∧ Rd w B rs[j] := by
  obtain ⟨B, cB, h1, h2, _⟩ := h.each j hj
  rcases h.own.2 with ⟨hv, hz⟩ | ⟨g, cap, cur, hv, _⟩
  · omega
  · obtain ⟨rfl, rfl, rfl⟩ := Value.slice.inj hv
    refine ⟨g, B, cB, rfl, ?_, h2⟩
    have h3 := h.own.cells (g := g) rfl j _ h1
    rwa [Addr.add_lit, Nat.zero_add] at h3
/-- Opened: the journal, its records. -/
def JOpened (w0 : Bas) (w : World) (pd : Nat) (p : Pl) (D : DS) (J : JV) (rs : List (List UInt8)) (r : Ending) (w' : World) : Prop :=
  Below w.heap.size w w' ∧ ∃ pj v A c vals, r = .returned (.tuple #[.pointer (some ⟨pj, 0, none⟩), .slice A rs.length c, .int .i64 0]) ∧ w.heap.size ≤ pj ∧ JD w0 pj v J pd p D w' ∧ Recs w.heap.size w' (.slice A rs.length c) rs vals
theorem jopened_any {w0 : Bas} {w : World} {pd : Nat} {p : Pl} {D : DS} (h : DiskAt pd p D w) (ok : D.Ok) (hbel : Fr w0.X w0.w w) (hlo : ∀ k, p.F pd k → w0.Q k) (fr ln ep : Nat) (hfl : fr + ln ≤ D.nb) (h1 : 1 ≤ ln) (h2 : ln ≤ 16384) (hep : ep ≤ 16777215) (hoff : D.off = false) {RS : List UInt8} {lf sf : Nat} {rs : List (List UInt8)} (hR : jread D fr ep ln 0 0 [] = (RS, lf)) (hlf : lf + 1 ≤ 1048575) (hrs : jopenRecs RS = (rs, sf)) :
    Calls Try.prog 12 #[.pointer (some ⟨pd, 0, none⟩), .agg #[.int .i64 (fr : Int), .int .i64 (ln : Int)], .int .i64 (ep : Int)] w (JOpened w0 w pd p D ⟨fr, ln, ep, lf + 1, RS.take sf, sf, rs.length, false⟩ rs) := by
  refine (jopen_main h ok hbel hlo fr ln ep hfl h1 h2 hep hoff RS lf hR).mono ?_
  rintro r w' ⟨hb, h9⟩
  rcases h9 with ⟨h9, _⟩ | ⟨_, pj, v, v7, vals, he, hpj, hJ, hRc⟩
  · omega
  rw [hrs] at hJ hRc
  obtain ⟨A, c, rfl⟩ := recs_form hRc.own
  exact ⟨hb, pj, v, A, c, vals, he, hpj, hJ, hRc⟩
end Go.Proofs.Ytcnhfbckaacalaa
