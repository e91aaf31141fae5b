/- The walk of alike of the statements of layer 6: both disks and both journals. Both sides of the play of layer 6: the program's disk and journal, the document's. -/
import Derived.Test.YtcnhfbckaacalaaJRQ
import Derived.Test.YtcnhfbckaacalaaJSame
namespace Go.Proofs.Ytcnhfbckaacalaa
section
open Go.RowKit
set_option linter.unusedVariables false
section
variable {w w' : World} {pd pr : Nat} {p : Pl} {q : RPl} {R : RS} {D : DS}
set_option maxRecDepth 100000 in
set_option maxHeartbeats 4000000 in
theorem alike_any {jp wp : Value} (hD : DiskAt pd p D w) (ok : D.Ok) (hR : RefAt pr q R w) (hS : Sim D R)
    (hw : (jp = .pointer none ∧ wp = .pointer none) ∨ ∃ b0 pj v J pk, jp = .pointer (some ⟨pj, 0, none⟩) ∧ wp = .pointer (some ⟨pk, 0, none⟩) ∧ JD b0 pj v J pd p D w ∧ RZ pk pr q J R w) :
    Calls Try.prog 37 #[.pointer (some ⟨pd, 0, none⟩), .pointer (some ⟨pr, 0, none⟩), jp, wp] w (Yes w) := by
  have HR := Lib.hid (fun W (hb : Below w.heap.size w W) => show W.cell? ⟨pr, 5, none⟩ = some (.bool D.off) ∧ W.cell? ⟨pr, 3, none⟩ = some q.lv ∧ W.cell? ⟨pr, 0, none⟩ = some (.int .i64 (D.nb : Int)) from by
    have h9 := (hR.keep hb).obj
    have k5 := h9.cell 5
    have k3 := h9.cell 3
    have k0 := h9.cell 0
    refine ⟨?_, k3, ?_⟩
    · rw [← hS.off]; exact k5
    · rw [← hS.nb]; exact k0)
  obtain ⟨C, cC, hv, hriC, _, _⟩ := own_rdi hR.log
  rw [hS.log] at hv hriC
  have HV := Lib.hid hv
  have hriC := hriC
  have HD := Lib.hid hD
  have HRF := Lib.hid hR
  have HS := Lib.hid hS
  have HW := Lib.hid hw
  have hlen' : D.log.length ≤ 140737488351232 := by have := ok.lg; omega
  have HOK := Lib.hid ok
  have hnb := ok.n2
  clear hD hR hS hw hv ok
  go_enter Try.func37, Try.ntmps37
  go_upto_region 1 with (fail)
  obtain ⟨g5, g3, g0⟩ := HR.out w.drew (Below.refl _ _).drew
  rw [HV.out] at g3
  go_region_held3 (fun W => W.cell? ⟨pr, 5, none⟩ = some (.bool D.off) ∧ W.cell? ⟨pr, 3, none⟩ = some (.slice C D.log.length cC)) (first | exact ⟨g5, g3⟩ | (obtain ⟨j5, j3, _⟩ := HR.out _ hb5; rw [HV.out] at j3; exact ⟨j5, j3⟩) | (obtain ⟨j5, j3, _⟩ := HR.out _ (below_drewN hb5 _); rw [HV.out] at j3; exact ⟨j5, j3⟩)) ((first
    | (go_at_call 39
       refine (dead_any (HD.out.keep (by first | exact (Below.refl _ _).drew | exact below_drewN hb5 _))).mono ?_
       rintro e w' ⟨rfl, rfl⟩)
    | (go_at_call 16
       refine (log_any (HD.out.keep (Below.refl _ _).drew) HOK.out).mono ?_
       rintro e w5 ⟨v, rfl, hown5, hb50⟩
       have hb5 : Below w.heap.size w w5 := (Below.refl _ _).drew.trans hb50
       obtain ⟨E, cE, rfl, hriE, _, _⟩ := own_rdi hown5)
    | (go_at_call 61
       refine (ints_any E C D.log D.log D.log.length cE D.log.length cC _ rfl rfl hlen' hlen' hriE (hriC.below hb5)).mono ?_
       rintro e w6 ⟨rfl, q6, rfl⟩)))
  go_upto_region 4 with (fail)
  refine wp_world (fun V => Below w.heap.size w V) (below_drewN hb5 _) ?_
  clear g5 g3 g0 hriC hb5
  intro V1 hb1
  go_loopw [8, 9] (fun rv nv wr => rv = .bool false ∧ ∃ n : Nat, nv = .int .i64 (n : Int) ∧ n ≤ D.nb ∧ Below w.heap.size w wr) (fun _ nv _ => D.nb - (intOf nv).toNat)
  case atStart => exact ⟨rfl, 0, rfl, Nat.zero_le _, hb1⟩
  case round =>
    obtain ⟨rfl, n, rfl, hn, hb⟩ := hrel
    obtain ⟨g5, g3, g0⟩ := HR.out wr hb
    clear g3
    by_cases hgo : n < D.nb ∧ D.off = false
    · obtain ⟨hlt, hof⟩ := hgo
      have d1 : decide (n < D.nb) = true := by simpa using hlt
      rw [hof] at g5
      obtain ⟨bl, hbl⟩ : ∃ bl, D.blockB n = bl := ⟨_, rfl⟩
      have hDR : D.read (n : Int) = (0, bl) := by
        unfold DS.read
        rw [if_neg (by simp [DS.hasB]; omega), if_neg (by simp [hof]), ← hbl]
        rfl
      have hRR : R.read (n : Int) = (0, bl) := by rw [sim_read HS.out, hDR]
      obtain ⟨kl, hkl⟩ : ∃ kl, bl.length = kl := ⟨_, rfl⟩
      have H1 : Hid (Calls Try.prog 62 #[.pointer (some ⟨pd, 0, none⟩), .int .i64 (n : Int)] wr fun r w' => ∃ v, r = .returned (.tuple #[v, .int .i64 0]) ∧ w'.ownsRow wr.heap.size 5 1 v bl.length (bl.map bv) ∧ Below wr.heap.size wr w') := by
        have h9 := read_any (n := (n : Int)) (HD.out.keep hb) HOK.out
        unfold ReadEnds at h9
        rw [hDR] at h9
        exact h9
      have H2 : Hid (∀ V, Below w.heap.size w V → Calls Try.prog 51 #[.pointer (some ⟨pr, 0, none⟩), .int .i64 (n : Int)] V fun r w' => r = .returned (.tuple #[.string ⟨bl.toArray⟩, .int .i64 0]) ∧ Below V.heap.size V w') := fun V hV => by
        have h9 := rread_any (n := (n : Int)) (HRF.out.keep hV) HS.out.rok
        unfold RReadEnds at h9
        rw [hRR] at h9
        exact h9
      have HKL := Lib.hid hkl
      clear hbl hDR hRR hkl hof
      go_upto_region 8 with (first
        | (go_at_call 62; refine H1.out.mono ?_; rintro r w1 ⟨v1, rfl, ho1, hb1⟩; (obtain ⟨A1, c1, rfl, hr1, _, _⟩ := own_rd ho1); have hb2 := below_step hb hb1)
        | (go_at_call 51; refine (H2.out _ hb2).mono ?_; rintro r w2 ⟨rfl, hb3⟩))
      have hst := run_str (P := Try.prog) Try.underlying23 Try.underlying5 Try.underlying9 w2 A1 bl.length c1 bl rfl (hr1.below hb3)
      have hb4 := below_step hb2 hb3
      have q1 : IntKind.i64.wrap ((n : Int) + 1) = (n : Int) + 1 := IntWalk.i64_in _ (by omega)
      clear g5 g0 hb hb3 hr1 ho1 hb1 H1 H2 hb2
      go_wp2
      go_roundw
      case rel => exact ⟨rfl, n + 1, by go_num, by omega, hb4⟩
      case measure => simp [intOf]; omega
    · by_cases hlt : n < D.nb
      case' pos =>
        have hof : D.off = true := by
          cases h9 : D.off with
          | true => rfl
          | false => exact absurd ⟨hlt, h9⟩ hgo
        have d1 : decide (n < D.nb) = true := by simpa using hlt
        rw [hof] at g5
      case' neg =>
        have d1 : decide (n < D.nb) = false := by simpa using hlt
      all_goals
        clear hgo
        have HB := Lib.hid hb
        rcases HW.out with ⟨hj0, hw0⟩ | ⟨b0, pj, v, J, pk, hj0, hw0, hJ, hZ⟩
        · subst hj0
          subst hw0
          go_upto_region 10 with (fail)
          clear g5 g0
          go_wp2
          go_ret
          exact ⟨rfl, HB.out⟩
        · subst hj0
          subst hw0
          go_upto_region 10 with (fail)
          clear g5 g0
          obtain ⟨sl, hsl⟩ : ∃ sl, J.stream.length = sl := ⟨_, rfl⟩
          obtain ⟨lf, hlf⟩ : ∃ lf, J.left D = lf := ⟨_, rfl⟩
          obtain ⟨cp, hcp⟩ : ∃ cp, J.len * (D.size - 15) = cp := ⟨_, rfl⟩
          have hro := hJ.jok.room
          rw [hcp, hsl] at hro
          have hlf2 : lf = cp - sl := by rw [← hlf, JV.left, hcp, hsl]
          have hsl9 := hJ.jok.len HOK.out
          have hl2 := hJ.jok.l2
          have hcp9 : cp ≤ 16384 * 4096 := by rw [← hcp]; have := HOK.out.s2; exact Nat.mul_le_mul hl2 (by omega)
          have q1 : IntKind.i64.wrap ((cp : Int) - (sl : Int)) = (lf : Int) := by rw [IntWalk.i64_in _ (by omega)]; omega
          have hz : (⟨J.stream.toArray⟩ : ByteArray).size = sl := by show J.stream.toArray.size = _; simp [hsl]
          have HJ := Lib.hid (fun n => (hJ.keep HB.out).drewN n)
          have HZ := Lib.hid (fun n => (hZ.keep HB.out).drewN n)
          have HU := Lib.hid (fun n => jused_any (HJ.out n))
          rw [hsl] at HU
          have HL := Lib.hid (fun n => jleft_any (HJ.out n))
          rw [hlf] at HL
          have HSF := Lib.hid (fun n => jsafe_any (HJ.out n))
          have HRC := Lib.hid (fun n => jrecords_any (HJ.out n))
          have HC := Lib.hid (fun n => rcap_any (HZ.out n) HS.out hl2)
          rw [hcp] at HC
          have c5 : wr.cell? ⟨pk, 5, none⟩ = some (.string ⟨J.stream.toArray⟩) := (HZ.out 0).obj.cell 5
          have c6 : wr.cell? ⟨pk, 6, none⟩ = some (.int .i64 (J.safe : Int)) := (HZ.out 0).obj.cell 6
          have c7 : wr.cell? ⟨pk, 7, none⟩ = some (.int .i64 (J.records : Int)) := (HZ.out 0).obj.cell 7
          clear hJ hZ hsl hlf hcp hlf2 hcp9 hsl9 hro
          go_upto_region 12 with (fail)
          go_quiet ((first
            | (go_at_call 15; exact Calls.quiet_of_same ((HU.out _).mono fun e w' ⟨he, hw⟩ => ⟨he, hw.symm⟩))
            | (go_at_call 13; exact Calls.quiet_of (HL.out _))
            | (go_at_call 56; exact Calls.quiet_of (HC.out _))
            | (go_at_call 18; exact Calls.quiet_of_same ((HSF.out _).mono fun e w' ⟨he, hw⟩ => ⟨he, hw.symm⟩))
            | (go_at_call 20; exact Calls.quiet_of_same ((HRC.out _).mono fun e w' ⟨he, hw⟩ => ⟨he, hw.symm⟩))))
          go_wp2
          go_ret
          exact ⟨rfl, below_drewN HB.out _⟩
end
end
section
open Go.RowKit
set_option linter.unusedVariables false

/-- The program's side: a disk, and perhaps a journal on it. -/
structure SP where
  o : Option JV
  pj : Nat
  v : Value
  pd : Nat
  p : Pl
  D : DS
/-- The document's side. -/
structure SR where
  o : Option JV
  pk : Nat
  pr : Nat
  q : RPl
  R : RS
def SP.F (s : SP) (k : Nat) : Prop := match s.o with | none => s.p.F s.pd k | some _ => JF s.pd s.p s.pj s.v k
def SP.At (s : SP) (V : World) : Prop := match s.o with | none => DiskAt s.pd s.p s.D V ∧ s.D.Ok | some J => ∃ b0, JD b0 s.pj s.v J s.pd s.p s.D V
def SP.ad (s : SP) : Option Addr := s.o.map fun _ => ⟨s.pj, 0, none⟩
def SP.ptr (s : SP) : Value := .pointer s.ad
def SR.F (r : SR) (k : Nat) : Prop := match r.o with | none => r.q.F r.pr k | some _ => RF r.pk r.pr r.q k
def SR.At (r : SR) (V : World) : Prop := match r.o with | none => RefAt r.pr r.q r.R V | some J => RZ r.pk r.pr r.q J r.R V
def SR.ad (r : SR) : Option Addr := r.o.map fun _ => ⟨r.pk, 0, none⟩
def SR.ptr (r : SR) : Value := .pointer r.ad
structure XAct (s s' : SP) (V V' : World) : Prop where
  at_ : s'.At V'
  fr : Fr s.F V V'
  grown : ∀ k, s'.F k → s.F k ∨ V.heap.size ≤ k
structure YAct (r r' : SR) (V V' : World) : Prop where
  at_ : r'.At V'
  fr : Fr r.F V V'
  grown : ∀ k, r'.F k → r.F k ∨ V.heap.size ≤ k
section
variable {w V V' : World} {s s' : SP} {r r' : SR} {F : Nat → Prop}
theorem SP.disk (h : s.At V) : DiskAt s.pd s.p s.D V := by
  obtain ⟨o, pj, v, pd, p, D⟩ := s
  cases o with
  | none => exact h.1
  | some J => obtain ⟨b0, h⟩ := h; exact h.disk
theorem SP.okD (h : s.At V) : s.D.Ok := by
  obtain ⟨o, pj, v, pd, p, D⟩ := s
  cases o with
  | none => exact h.2
  | some J => obtain ⟨b0, h⟩ := h; exact h.ok
theorem SP.sub (s : SP) {k : Nat} (hk : s.p.F s.pd k) : s.F k := by
  obtain ⟨o, pj, v, pd, p, D⟩ := s
  cases o with
  | none => exact hk
  | some J => exact .inl hk
theorem SP.lt (h : s.At V) {k : Nat} (hk : s.F k) : k < V.heap.size := by
  obtain ⟨o, pj, v, pd, p, D⟩ := s
  cases o with
  | none => exact h.1.lt k hk
  | some J => obtain ⟨b0, h⟩ := h; exact h.jf_lt hk
theorem SP.far (h : s.At V) (hf : Fr F V V') (hd : ∀ k, s.F k → ¬ F k) : s.At V' := by
  obtain ⟨o, pj, v, pd, p, D⟩ := s
  cases o with
  | none => exact ⟨h.1.far hf hd, h.2⟩
  | some J =>
    obtain ⟨b0, h⟩ := h
    exact ⟨jb V' pd p pj v, h.disk.far hf (fun k hk => hd k (.inl hk)), hf.blk h.obj (hd _ (.inr (.inl rfl))), h.str.far hf (fun k hk => hd k (.inr (.inr hk))), Fr.refl _ _, .inr (.inr (.inl rfl)), fun k hk => .inr (.inr (.inr hk)), fun k hk => .inr (.inl hk), h.sep, h.sepV, h.ok, h.jok⟩
theorem SR.ref (h : r.At V) : RefAt r.pr r.q r.R V := by
  obtain ⟨o, pk, pr, q, R⟩ := r
  cases o with
  | none => exact h
  | some J => exact h.ref
theorem SR.sub (r : SR) {k : Nat} (hk : r.q.F r.pr k) : r.F k := by
  obtain ⟨o, pk, pr, q, R⟩ := r
  cases o with
  | none => exact hk
  | some J => exact .inl hk
theorem SR.lt (h : r.At V) {k : Nat} (hk : r.F k) : k < V.heap.size := by
  obtain ⟨o, pk, pr, q, R⟩ := r
  cases o with
  | none => exact RefAt.lt h k hk
  | some J => exact RZ.lt h hk
theorem SR.far (h : r.At V) (hf : Fr F V V') (hd : ∀ k, r.F k → ¬ F k) : r.At V' := by
  obtain ⟨o, pk, pr, q, R⟩ := r
  cases o with
  | none => exact RefAt.far h hf hd
  | some J => exact RZ.far h hf hd
theorem XAct.quiet (h : s.At V) (hb : Below V.heap.size V V') : XAct s s V V' := ⟨SP.far h (Fr.of_below hb (fun _ => False)) (fun _ _ e => e), Fr.of_below hb _, fun k hk => .inl hk⟩
/-- The program's side of what the contracts say. -/
theorem p_jact {b0 : Bas} {pj : Nat} {v : Value} {J : JV} {pd : Nat} {p : Pl} {D : DS} {x : Nat × JV × DS} {g : Ending} (h : JD b0 pj v J pd p D V) (a : JAct (jb V pd p pj v) pj pd x g V') : g = .returned (.int .i64 (x.1 : Int)) ∧ ∃ v' p', XAct ⟨some J, pj, v, pd, p, D⟩ ⟨some x.2.1, pj, v', pd, p', x.2.2⟩ V V' := by
  obtain ⟨he, v', p', a⟩ := a
  refine ⟨he, v', p', ⟨_, a⟩, a.belx, fun k hk => ?_⟩
  rcases a.jf_q hk with h9 | h9
  · exact .inr h9
  · exact .inl h9
theorem r_jact {pk pr : Nat} {q q' : RPl} {J J' : JV} {R R' : RS} {D' : DS} (a : RZA V pk pr q J' D' V' R' q') : YAct ⟨some J, pk, pr, q, R⟩ ⟨some J', pk, pr, q', R'⟩ V V' ∧ Sim D' R' :=
  ⟨⟨a.rz, a.fr, a.grown⟩, a.sim⟩
theorem p_disk {o : Option JV} {pj : Nat} {v : Value} {pd : Nat} {p p' : Pl} {D D' : DS} (h : (⟨o, pj, v, pd, p, D⟩ : SP).At V) (a : Acts V pd p D' V' p') (ok : D'.Ok) (h1 : D'.nb = D.nb) (h2 : D'.size = D.size) : XAct ⟨o, pj, v, pd, p, D⟩ ⟨o, pj, v, pd, p', D'⟩ V V' := by
  cases o with
  | none => exact ⟨⟨a.disk, ok⟩, a.fr, a.grown⟩
  | some J =>
    obtain ⟨b0, h⟩ := h
    have a2 := h.anew.disk_act a ok h1 h2
    refine ⟨⟨_, a2⟩, a2.belx, fun k hk => ?_⟩
    rcases a2.jf_q hk with h9 | h9
    · exact .inr h9
    · exact .inl h9
theorem r_disk {o : Option JV} {pk pr : Nat} {q q' : RPl} {R R' : RS} (h : (⟨o, pk, pr, q, R⟩ : SR).At V) {D' : DS} (hS : Sim D' R') (a : RActs V pr q R' V' q') : YAct ⟨o, pk, pr, q, R⟩ ⟨o, pk, pr, q', R'⟩ V V' := by
  cases o with
  | none => exact ⟨a.ref, a.fr, a.grown⟩
  | some J =>
    have a2 := RZA.disk h hS a
    exact ⟨a2.rz, a2.fr, a2.grown⟩
/-- Both, and the area's object. -/
structure Two (w : World) (pa : Nat) (cs : Array Value) (s : SP) (r : SR) (V : World) : Prop where
  x : s.At V
  y : r.At V
  area : Blk V pa 34 cs
  bel : Below w.heap.size w V
  ap : ∀ k, s.F k → ¬ r.F k
  lx : ∀ k, s.F k → w.heap.size ≤ k ∧ k ≠ pa
  ly : ∀ k, r.F k → w.heap.size ≤ k ∧ k ≠ pa
  lp : w.heap.size ≤ pa
variable {pa : Nat} {cs : Array Value}
theorem Two.xact (h : Two w pa cs s r V) (a : XAct s s' V V') : Two w pa cs s' r V' := by
  have hs := h.bel.size
  have hp := h.area.lt
  refine ⟨a.at_, SR.far h.y a.fr (fun k hk e => h.ap k e hk), a.fr.blk h.area (fun e => (h.lx pa e).2 rfl), h.bel.trans (a.fr.below hs (fun k hk => (h.lx k hk).1)), fun k hk hr => ?_, fun k hk => ?_, h.ly, h.lp⟩
  · rcases a.grown k hk with h9 | h9
    · exact h.ap k h9 hr
    · have := SR.lt h.y hr; omega
  · rcases a.grown k hk with h9 | h9
    · exact h.lx k h9
    · exact ⟨by omega, by omega⟩
theorem Two.yact (h : Two w pa cs s r V) (a : YAct r r' V V') : Two w pa cs s r' V' := by
  have hs := h.bel.size
  have hp := h.area.lt
  refine ⟨SP.far h.x a.fr (fun k hk e => h.ap k hk e), a.at_, a.fr.blk h.area (fun e => (h.ly pa e).2 rfl), h.bel.trans (a.fr.below hs (fun k hk => (h.ly k hk).1)), fun k hk hr => ?_, h.lx, fun k hk => ?_, h.lp⟩
  · rcases a.grown k hr with h9 | h9
    · exact h.ap k hk h9
    · have := SP.lt h.x hk; omega
  · rcases a.grown k hk with h9 | h9
    · exact h.ly k h9
    · exact ⟨by omega, by omega⟩
theorem Two.keep (h : Two w pa cs s r V) (hb : Below V.heap.size V V') : Two w pa cs s r V' :=
  ⟨SP.far h.x (Fr.of_below hb (fun _ => False)) (fun _ _ e => e), SR.far h.y (Fr.of_below hb (fun _ => False)) (fun _ _ e => e), h.area.keep hb, below_step h.bel hb, h.ap, h.lx, h.ly, h.lp⟩
theorem Two.drewN (h : Two w pa cs s r V) (n : Nat) : Two w pa cs s r (V.drewN n) := h.keep (below_drewN (Below.refl _ _) n)
/-- A block of others. -/
structure Out (pa : Nat) (s : SP) (r : SR) (k : Nat) : Prop where
  x : ¬ s.F k
  y : ¬ r.F k
  a : k ≠ pa
theorem Two.out (h : Two w pa cs s r V) {k : Nat} (hk : V.heap.size ≤ k) : Out pa s r k :=
  ⟨fun e => by have := SP.lt h.x e; omega, fun e => by have := SR.lt h.y e; omega, by have := h.area.lt; omega⟩
theorem Out.xact {k : Nat} (h : Out pa s r k) (a : XAct s s' V V') (hk : k < V.heap.size) : Out pa s' r k := ⟨fun e => by
  rcases a.grown k e with h9 | h9
  · exact h.x h9
  · omega, h.y, h.a⟩
theorem Out.yact {k : Nat} (h : Out pa s r k) (a : YAct r r' V V') (hk : k < V.heap.size) : Out pa s r' k := ⟨h.x, fun e => by
  rcases a.grown k e with h9 | h9
  · exact h.y h9
  · omega, h.a⟩
theorem Two.far (h : Two w pa cs s r V) (hf : Fr F V V') (h1 : ∀ k, F k → w.heap.size ≤ k ∧ Out pa s r k) : Two w pa cs s r V' :=
  ⟨SP.far h.x hf (fun k hk e => (h1 k e).2.x hk), SR.far h.y hf (fun k hk e => (h1 k e).2.y hk), hf.blk h.area (fun e => (h1 pa e).2.a rfl), h.bel.trans (hf.below h.bel.size (fun k e => (h1 k e).1)), h.ap, h.lx, h.ly, h.lp⟩
/-- A slice of n bytes in a block of others. -/
def Row (w0 : World) (pa : Nat) (s : SP) (r : SR) (v : Value) (n : Nat) (W : World) : Prop :=
  n = 0 ∨ ∃ g c cs, v = .slice (some ⟨g, 0, none⟩) n c ∧ Blk W g 5 cs ∧ n ≤ cs.size ∧ (∀ i, i < n → ∃ z, cs[i]? = some (.int .u8 z)) ∧ Out pa s r g ∧ w0.heap.size ≤ g
variable {w0 W W' : World} {v : Value} {n : Nat}
theorem Row.of_own {base : Nat} {l : List UInt8} (h : W.ownsRow base 5 1 v n (l.map bv)) (hO : ∀ k, base ≤ k → Out pa s r k) (hb : w0.heap.size ≤ base) : Row w0 pa s r v n W := by
  rcases h.2 with ⟨_, hn⟩ | ⟨g, cap, cur, hv, hg, hB, hnc, hcm, hsz, htk⟩
  · exact .inl hn
  · have hl : l.length = n := by have := h.1; simpa using this
    refine .inr ⟨g, cap, cur, hv, hB, by omega, fun i hi => ?_, hO g hg, by omega⟩
    have h1 : (cur.toList.take (n * 1))[i]? = (l.map bv)[i]? := by rw [htk]
    have h2 : (l.map bv)[i]? = some (bv (l[i]'(by omega))) := by rw [List.getElem?_map, List.getElem?_eq_getElem (by omega)]; rfl
    rw [Nat.mul_one, List.getElem?_take, if_pos hi, h2] at h1
    exact ⟨_, by rw [← Array.getElem?_toList]; exact h1⟩
theorem Row.at_ (h : Row w0 pa s r v n W) (hB : Two w0 pa cs s r W) {i : Nat} (hi : i < n) :
    ∃ g c z, v = .slice (some ⟨g, 0, none⟩) n c ∧ W.cell? ⟨g, i, none⟩ = some (.int .u8 z) ∧ W.frozen? ⟨g, i, none⟩ = false ∧ ∀ z', Row w0 pa s r v n (W.setCell ⟨g, i, none⟩ (.int .u8 z')) ∧ Two w0 pa cs s r (W.setCell ⟨g, i, none⟩ (.int .u8 z')) := by
  rcases h with h | ⟨g, c, cs, hv, hBk, hsz, hcs, hOut, hg⟩
  · omega
  · obtain ⟨z, hz⟩ := hcs i hi
    refine ⟨g, c, z, hv, by rw [hBk.cell]; exact hz, hBk.frozen i, fun z' => ⟨.inr ⟨g, c, _, hv, hBk.set_ i _, by simpa using hsz, fun k hk => ?_, hOut, hg⟩, ?_⟩⟩
    · by_cases hki : i = k
      · subst hki
        exact ⟨z', by rw [Array.getElem?_setIfInBounds_self_of_lt (by omega)]⟩
      · rw [Array.getElem?_setIfInBounds_ne hki]
        exact hcs k hk
    · exact hB.far (F := fun k => k = g) (Fr.setCell (fun k => k = g) W (p := ⟨g, i, none⟩) (fun _ => rfl) _) (fun k hk => by rw [hk]; exact ⟨hg, hOut⟩)
theorem Row.xact (h : Row w0 pa s r v n W) (a : XAct s s' W W') : Row w0 pa s' r v n W' := by
  rcases h with h | ⟨g, c, cs, hv, hBk, hsz, hcs, hOut, hg⟩
  · exact .inl h
  · exact .inr ⟨g, c, cs, hv, a.fr.blk hBk hOut.x, hsz, hcs, hOut.xact a hBk.lt, hg⟩
theorem Row.yact (h : Row w0 pa s r v n W) (a : YAct r r' W W') : Row w0 pa s r' v n W' := by
  rcases h with h | ⟨g, c, cs, hv, hBk, hsz, hcs, hOut, hg⟩
  · exact .inl h
  · exact .inr ⟨g, c, cs, hv, a.fr.blk hBk hOut.y, hsz, hcs, hOut.yact a hBk.lt, hg⟩
theorem Row.below (h : Row w0 pa s r v n W) (hb : Below W.heap.size W W') : Row w0 pa s r v n W' := by
  rcases h with h | ⟨g, c, cs, hv, hBk, hsz, hcs, hOut, hg⟩
  · exact .inl h
  · exact .inr ⟨g, c, cs, hv, hBk.keep hb, hsz, hcs, hOut, hg⟩
end
/-- The journal that Open gives, if it does. -/
def oj (D : DS) (fr ln ep : Int) : Option JV := if (jopenP D fr ln ep).1 = 0 then some (jopenP D fr ln ep).2.1 else none
theorem jopen_ways (D : DS) (fr ln ep : Int) :
    ((fitsB D.nb fr ln = false ∨ ep < 0 ∨ 16777215 < ep) ∧ (jopenP D fr ln ep).1 = 2 ∧ (jopenP D fr ln ep).2.2 = [] ∧ oj D fr ln ep = none) ∨
    (fitsB D.nb fr ln = true ∧ 0 ≤ ep ∧ ep ≤ 16777215 ∧ D.off = true ∧ (jopenP D fr ln ep).1 = 20 ∧ (jopenP D fr ln ep).2.2 = [] ∧ oj D fr ln ep = none) ∨
    (∃ f l e : Nat, ∃ st lf, fr = (f : Int) ∧ ln = (l : Int) ∧ ep = (e : Int) ∧ f + l ≤ D.nb ∧ 1 ≤ l ∧ l ≤ 16384 ∧ e ≤ 16777215 ∧ D.off = false ∧ jread D f e l 0 0 [] = (st, lf) ∧
      ((1048575 < lf + 1 ∧ (jopenP D fr ln ep).1 = 6 ∧ (jopenP D fr ln ep).2.2 = [] ∧ oj D fr ln ep = none) ∨
       (¬ 1048575 < lf + 1 ∧ (jopenP D fr ln ep).1 = 0 ∧ (jopenP D fr ln ep).2.2 = (jopenRecs st).1 ∧ oj D fr ln ep = some ⟨f, l, e, lf + 1, st.take (jopenRecs st).2, (jopenRecs st).2, (jopenRecs st).1.length, false⟩))) := by
  unfold oj
  by_cases h1 : fitsB D.nb fr ln = false ∨ ep < 0 ∨ 16777215 < ep
  · have h9 : jopenP D fr ln ep = (2, jv0 0 0 0 0, []) := by unfold jopenP; rw [if_pos h1]
    rw [h9]
    exact .inl ⟨h1, rfl, rfl, rfl⟩
  · have hf : fitsB D.nb fr ln = true := by
      cases h9 : fitsB D.nb fr ln with
      | true => rfl
      | false => exact absurd (.inl h9) h1
    have he1 : 0 ≤ ep := by omega
    have he2 : ep ≤ 16777215 := by omega
    by_cases h2 : D.off = true
    · have h9 : jopenP D fr ln ep = (20, jv0 0 0 0 0, []) := by unfold jopenP; rw [if_neg h1, if_pos h2]
      rw [h9]
      exact .inr (.inl ⟨hf, he1, he2, h2, rfl, rfl, rfl⟩)
    · have hf2 := hf
      unfold fitsB at hf2
      rw [decide_eq_true_iff] at hf2
      obtain ⟨f, rfl⟩ := Int.eq_ofNat_of_zero_le hf2.1
      obtain ⟨l, rfl⟩ := Int.eq_ofNat_of_zero_le (show 0 ≤ ln by omega)
      obtain ⟨e, rfl⟩ := Int.eq_ofNat_of_zero_le he1
      obtain ⟨⟨st, lf⟩, hR⟩ : ∃ x, jread D f e l 0 0 [] = x := ⟨_, rfl⟩
      right; right
      refine ⟨f, l, e, st, lf, rfl, rfl, rfl, by omega, by omega, by omega, by omega, by simpa using h2, hR, ?_⟩
      by_cases h3 : 1048575 < lf + 1
      · have h9 : jopenP D (f : Int) (l : Int) (e : Int) = (6, jv0 0 0 0 0, []) := by
          unfold jopenP
          rw [if_neg h1, if_neg h2]
          simp only [Int.toNat_natCast]
          rw [hR, if_pos h3]
        rw [h9]
        exact .inl ⟨h3, rfl, rfl, rfl⟩
      · have h9 : jopenP D (f : Int) (l : Int) (e : Int) = (0, ⟨f, l, e, lf + 1, st.take (jopenRecs st).2, (jopenRecs st).2, (jopenRecs st).1.length, false⟩, (jopenRecs st).1) := by
          unfold jopenP
          rw [if_neg h1, if_neg h2]
          simp only [Int.toNat_natCast]
          rw [hR, if_neg h3]
        rw [h9]
        exact .inr ⟨h3, rfl, rfl, rfl⟩
section
variable {V V' : World} {pd pr : Nat} {p : Pl} {q : RPl} {D : DS} {R : RS}
def POpened (V : World) (pd : Nat) (p : Pl) (D : DS) (fr ln ep : Int) (g : Ending) (w' : World) : Prop :=
  ∃ pj v A c, g = .returned (.tuple #[(⟨oj D fr ln ep, pj, v, pd, p, D⟩ : SP).ptr, .slice A (jopenP D fr ln ep).2.2.length c, .int .i64 ((jopenP D fr ln ep).1 : Int)]) ∧ (⟨oj D fr ln ep, pj, v, pd, p, D⟩ : SP).At w' ∧ Below V.heap.size V w' ∧ (∀ k, (⟨oj D fr ln ep, pj, v, pd, p, D⟩ : SP).F k → p.F pd k ∨ V.heap.size ≤ k) ∧ RdL w' A (jopenP D fr ln ep).2.2 ∧ (jopenP D fr ln ep).2.2.length ≤ 67108864
theorem p_open_no {e : Nat} {fr ln ep : Int} (h : DiskAt pd p D V) (ok : D.Ok) (he : (jopenP D fr ln ep).1 = e) (hr : (jopenP D fr ln ep).2.2 = []) (ho : oj D fr ln ep = none) {g : Ending} (a : JOpenNo V e g V') : POpened V pd p D fr ln ep g V' := by
  refine ⟨0, .pointer none, none, 0, ?_, ?_, a.2, ?_, ?_, ?_⟩
  · rw [a.1, he, hr, ho]; rfl
  · rw [ho]; exact ⟨h.keep a.2, ok⟩
  · rw [ho]; exact fun k hk => .inl hk
  · rw [hr]; exact .inl rfl
  · rw [hr]; simp
theorem p_open (h : DiskAt pd p D V) (ok : D.Ok) (fr ln ep : Int) : Calls Try.prog 12 #[.pointer (some ⟨pd, 0, none⟩), .agg #[.int .i64 fr, .int .i64 ln], .int .i64 ep] V (POpened V pd p D fr ln ep) := by
  rcases jopen_ways D fr ln ep with ⟨h1, h2, h3, h4⟩ | ⟨h1, h2, h3, h4, h5, h6, h7⟩ | ⟨f, l, e, st, lf, rfl, rfl, rfl, h1, h2, h3, h4, h5, h6, h7⟩
  · exact (jopen_arg h ok fr ln ep h1).mono fun g w' a => p_open_no h ok h2 h3 h4 a
  · exact (jopen_dead h ok fr ln ep h1 h2 h3 h4).mono fun g w' a => p_open_no h ok h5 h6 h7 a
  · refine (jopen_main (w0 := ⟨V, p.F pd⟩) h ok (Fr.refl _ _) (fun k hk => .inr hk) f l e h1 h2 h3 h4 h5 st lf h6).mono ?_
    rintro g w' ⟨hb, h9⟩
    rcases h7 with ⟨k1, k2, k3, k4⟩ | ⟨k1, k2, k3, k4⟩
    · rcases h9 with ⟨_, h9⟩ | ⟨h9, _⟩
      · exact p_open_no h ok k2 k3 k4 ⟨h9, hb⟩
      · exact absurd k1 h9
    · rcases h9 with ⟨h9, _⟩ | ⟨_, pj, v, v7, vals, he, hpj, hJ, hRc⟩
      · exact absurd h9 k1
      obtain ⟨A, c, rfl⟩ := recs_form hRc.own
      refine ⟨pj, v, A, c, ?_, ?_, hb, ?_, ?_, ?_⟩
      · rw [he, k2, k3, k4]; rfl
      · rw [k4]; exact ⟨_, hJ⟩
      · rw [k4]
        intro k hk
        rcases hJ.jf_q hk with h8 | h8
        · exact .inr h8
        · exact .inl h8
      · rw [k3]; exact hRc.rdl
      · rw [k3]
        have h8 := hJ.jok.recs
        have h7 := hJ.jok.len ok
        have h6 : (jopenRecs st).1.length ≤ (st.take (jopenRecs st).2).length := h8
        have h5 : (st.take (jopenRecs st).2).length ≤ 67108864 := h7
        omega
set_option maxRecDepth 100000 in
set_option maxHeartbeats 4000000 in
theorem ropen_dead (h : RefAt pr q R V) (hS : Sim D R) (fr ln ep : Int) (hfb : fitsB D.nb fr ln = true) (he1 : 0 ≤ ep) (he2 : ep ≤ 16777215) (hoff : D.off = true) :
    Calls Try.prog 29 #[.pointer (some ⟨pr, 0, none⟩), .agg #[.int .i64 fr, .int .i64 ln], .int .i64 ep] V (ROpenNo V 20) := by
  have hB : Blk (V.alloc (.cells #[.int .i64 fr, .int .i64 ln] 34)) V.heap.size 34 #[.int .i64 fr, .int .i64 ln] := Blk.new _ _ _
  have e0 : (V.alloc (.cells #[.int .i64 fr, .int .i64 ln] 34)).cell? ⟨V.heap.size, 0, none⟩ = some (.int .i64 fr) := hB.cell 0
  have e1 : (V.alloc (.cells #[.int .i64 fr, .int .i64 ln] 34)).cell? ⟨V.heap.size, 1, none⟩ = some (.int .i64 ln) := hB.cell 1
  have r0 : (V.alloc (.cells #[.int .i64 fr, .int .i64 ln] 34)).cell? ⟨pr, 0, none⟩ = some (.int .i64 (D.nb : Int)) := by
    rw [← hS.nb]; exact (h.keep (below_alloc _ _)).obj.cell 0
  have r5 : ∀ n, ((V.alloc (.cells #[.int .i64 fr, .int .i64 ln] 34)).drewN n).cell? ⟨pr, 5, none⟩ = some (.bool true) := fun n => by
    rw [← hoff, ← hS.off]; exact (h.keep (below_drewN (below_alloc _ _) n)).obj.cell 5
  have HBL := Lib.hid (below_alloc V (.cells #[.int .i64 fr, .int .i64 ln] 34))
  have hnb := hS.dok.n2
  obtain ⟨nb, hnbe⟩ : ∃ nb, D.nb = nb := ⟨_, rfl⟩
  rw [hnbe] at hfb r0 hnb
  unfold fitsB at hfb
  rw [decide_eq_true_iff] at hfb
  have d1 : decide (fr < 0) = false := by simp; omega
  have d2 : decide (ln < 1) = false := by simp; omega
  have d3 : decide (16384 < ln) = false := by simp; omega
  have d4 : decide ((nb : Int) ≤ fr) = false := by simp; omega
  have q1 : IntKind.i64.wrap ((nb : Int) - fr) = (nb : Int) - fr := IntWalk.i64_in _ (by omega)
  have d5 : decide ((nb : Int) - fr < ln) = false := by simp; omega
  have d6 : decide (ep < 0) = false := by simp; omega
  have d7 : decide (16777215 < ep) = false := by simp; omega
  clear h hS hB hnbe hoff
  go_enter Try.func29, Try.ntmps29
  go_upto_region 3 with (fail)
  go_quiet (fail)
  have r6 := r5 nq
  go_wp2
  refine bodyPost_ret (v := .tuple #[.pointer none, .slice none 0 0, .int .i64 20]) (by simp [results, Try.results29, go_sem]) rfl ⟨rfl, below_drewN HBL.out _⟩
def QOpened (V : World) (pr : Nat) (q : RPl) (R : RS) (D : DS) (fr ln ep : Int) (g : Ending) (w' : World) : Prop :=
  ∃ pk A c, g = .returned (.tuple #[(⟨oj D fr ln ep, pk, pr, q, R⟩ : SR).ptr, .slice A (jopenP D fr ln ep).2.2.length c, .int .i64 ((jopenP D fr ln ep).1 : Int)]) ∧ (⟨oj D fr ln ep, pk, pr, q, R⟩ : SR).At w' ∧ Below V.heap.size V w' ∧ (∀ k, (⟨oj D fr ln ep, pk, pr, q, R⟩ : SR).F k → q.F pr k ∨ V.heap.size ≤ k) ∧ RdT w' A (jopenP D fr ln ep).2.2
theorem q_open_no {e : Nat} {fr ln ep : Int} (h : RefAt pr q R V) (he : (jopenP D fr ln ep).1 = e) (hr : (jopenP D fr ln ep).2.2 = []) (ho : oj D fr ln ep = none) {g : Ending} (a : ROpenNo V e g V') : QOpened V pr q R D fr ln ep g V' := by
  refine ⟨0, none, 0, ?_, ?_, a.2, ?_, ?_⟩
  · rw [a.1, he, hr, ho]; rfl
  · rw [ho]; exact h.keep a.2
  · rw [ho]; exact fun k hk => .inl hk
  · rw [hr]; exact .inl rfl
theorem q_open (h : RefAt pr q R V) (hS : Sim D R) (fr ln ep : Int) : Calls Try.prog 29 #[.pointer (some ⟨pr, 0, none⟩), .agg #[.int .i64 fr, .int .i64 ln], .int .i64 ep] V (QOpened V pr q R D fr ln ep) := by
  rcases jopen_ways D fr ln ep with ⟨h1, h2, h3, h4⟩ | ⟨h1, h2, h3, h4, h5, h6, h7⟩ | ⟨f, l, e, st, lf, rfl, rfl, rfl, h1, h2, h3, h4, h5, h6, h7⟩
  · exact (ropen_arg h hS fr ln ep h1).mono fun g w' a => q_open_no h h2 h3 h4 a
  · exact (ropen_dead h hS fr ln ep h1 h2 h3 h4).mono fun g w' a => q_open_no h h5 h6 h7 a
  · refine (ropen_main h hS f l e h1 h2 h3 h4 h5 st lf h6).mono ?_
    rintro g w' ⟨hb, h9⟩
    rcases h7 with ⟨k1, k2, k3, k4⟩ | ⟨k1, k2, k3, k4⟩
    · rcases h9 with ⟨_, h9⟩ | ⟨h9, _⟩
      · exact q_open_no h k2 k3 k4 ⟨h9, hb⟩
      · exact absurd k1 h9
    · rcases h9 with ⟨h9, _⟩ | ⟨_, pk, v7, he, hpk, hZ, hRw⟩
      · exact absurd h9 k1
      obtain ⟨A, c, rfl, hT, _⟩ := own_rdt hRw
      refine ⟨pk, A, c, ?_, ?_, hb, ?_, ?_⟩
      · rw [he, k2, k3, k4]; rfl
      · rw [k4]; exact hZ
      · rw [k4]
        intro k hk
        rcases hk with hk | hk
        · exact .inl hk
        · have hk : k = pk := hk
          exact .inr (hk ▸ hpk)
      · rw [k3]; exact hT
end
theorem flushes_keeps : ∀ (k : Nat) (J : JV) (D : DS), (JV.flushes k J D).2.2.size = D.size ∧ (JV.flushes k J D).2.2.nb = D.nb ∧ (JV.flushes k J D).2.2.log.length ≤ D.log.length + k
  | 0, J, D => ⟨rfl, rfl, Nat.le_refl _⟩
  | k + 1, J, D => by
    obtain ⟨_, _, h3, h4, h5, _⟩ := wr_keeps J D
    have ih := flushes_keeps k (J.wr D).2.1 (J.wr D).2.2
    unfold JV.flushes
    split
    · split
      · exact ⟨ih.1.trans h3, ih.2.1.trans h4, by have := ih.2.2; omega⟩
      · exact ⟨h3, h4, by omega⟩
    · exact ⟨rfl, rfl, by show D.log.length ≤ _; omega⟩
theorem app_keeps (J : JV) (D : DS) (l : List UInt8) (m : Nat) (h : J.left D + J.stream.length ≤ m) : (J.app D l).2.2.size = D.size ∧ (J.app D l).2.2.nb = D.nb ∧ (J.app D l).2.2.log.length ≤ D.log.length + (m + 1) := by
  unfold JV.app
  split
  · exact ⟨rfl, rfl, by show D.log.length ≤ _; omega⟩
  · split
    · exact ⟨rfl, rfl, by show D.log.length ≤ _; omega⟩
    · have h9 := flushes_keeps (J.stream.length + (laidS l).length + 1) { J with stream := J.stream ++ laidS l, records := J.records + 1 } D
      exact ⟨h9.1, h9.2.1, by have := h9.2.2; omega⟩
theorem flush_keeps (J : JV) (D : DS) : (J.flush D).2.2.size = D.size ∧ (J.flush D).2.2.nb = D.nb ∧ (J.flush D).2.2.log.length ≤ D.log.length + 1 := by
  obtain ⟨_, _, h3, h4, h5, _⟩ := wr_keeps J D
  unfold JV.flush
  split
  · exact ⟨rfl, rfl, by show D.log.length ≤ _; omega⟩
  · split
    · exact ⟨rfl, rfl, by show D.log.length ≤ _; omega⟩
    · exact ⟨h3, h4, h5⟩
/-- Number of both, whatever ints. -/
def numI (a b c : Int) : Int := IntKind.u64.wrap (IntKind.u64.wrap (IntKind.u64.wrap (IntKind.u64.wrap a * 1099511627776) + IntKind.u64.wrap (IntKind.u64.wrap b * 1048576)) + IntKind.u64.wrap c)
theorem p_number (a b c : Int) (V : World) : Calls Try.prog 26 #[.int .i64 a, .int .i64 b, .int .i64 c] V fun r w' => r = .returned (.int .u64 (numI a b c)) ∧ V = w' := by
  go_enter Try.func26, Try.ntmps26
  go_wp2
  go_ret
  exact ⟨rfl, rfl⟩
theorem q_number (a b c : Int) (V : World) : Calls Try.prog 27 #[.int .i64 a, .int .i64 b, .int .i64 c] V fun r w' => r = .returned (.int .u64 (numI a b c)) ∧ V = w' := by
  go_enter Try.func27, Try.ntmps27
  go_wp2
  go_ret
  exact ⟨rfl, rfl⟩
end
end Go.Proofs.Ytcnhfbckaacalaa
