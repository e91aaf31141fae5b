/- Layer 11: the walk of Expr: a whole text's tree, the error, its place. -/
import Derived.Test.YthhindnjnijglaaScH
import Derived.Test.YthhindnjnijglaaPaS
namespace Go.Proofs.Ythhindnjnijglaa
open Go.RowKit
set_option linter.unusedVariables false

/-- How Expr ends. -/
def XEnd (W : World) (r : ND × Int × Int) (e : Ending) (w' : World) : Prop :=
  ∃ x : EN, x.t = r.1 ∧ e = .returned (.tuple #[.agg #[.int .i64 x.t.kind, .int .i64 x.t.int, .string ⟨x.t.name.toArray⟩, .int .i64 x.t.at_, .slice x.A x.t.kids.length x.c, .slice x.B x.t.clauses.length x.d, .slice x.C x.t.body.length x.e], .int .i64 r.2.1, .int .i64 r.2.2]) ∧ x.Ok (fun k => k < W.heap.size) w' ∧ Below W.heap.size W w'
/-- Expr's boxes and its parser. -/
structure XI (pb : Nat) (A : Option Addr) (c : Nat) (T : List Tok) (fin : Nat) (W : World) (g : Nat) (x : EN) (s : PS) (V : World) : Prop where
  res : ZBx V W.heap.size
  box : NBx V g x
  gp : W.heap.size < pb
  lt : pb < g
  p : PAt pb A c T fin s V
  ok : x.Ok (fun k => k ≤ pb) V
  hb : Below W.heap.size W V
section
variable {pb : Nat} {A : Option Addr} {c : Nat} {T : List Tok} {fin : Nat} {W V V' : World} {g : Nat} {x : EN} {s s' : PS}
theorem XI.keep (h : XI pb A c T fin W g x s V) (hb : Below V.heap.size V V') : XI pb A c T fin W g x s V' :=
  ⟨h.res.keep hb, h.box.keep hb, h.gp, h.lt, h.p.keep hb, h.ok.move (.of_below hb fun _ _ h => h), below_step h.hb hb⟩
theorem XI.act (h : XI pb A c T fin W g x s V) (hp : PAt pb A c T fin s' V') (hf : PFr pb V V') : XI pb A c T fin W g x s' V' := by
  have h1 := h.gp
  have h2 := h.lt
  refine ⟨hf.blk h.res (by omega), hf.blk h.box (by omega), h1, h2, hp, h.ok.move (.of_fr hf (fun k hk => by omega) fun _ _ h => h), ?_⟩
  exact h.hb.trans (hf.below h.hb.size (fun k hk => by omega))
theorem XI.start {V0 V1 V2 : World} {q : ND × PS} (h0 : ZBx V0 W.heap.size) (hb0 : Below W.heap.size W V0) (hpb : V0.heap.size ≤ pb) (hp1 : PAt pb A c T fin s V1) (hb1 : Below V0.heap.size V0 V1) (hok : x.Ok (fun k => k < V1.heap.size) V2) (hp2 : PAt pb A c T fin q.2 V2) (hf : PFr pb V1 V2) :
    XI pb A c T fin W V2.heap.size x q.2 (V2.alloc (.cells #[.int .i64 x.t.kind, .int .i64 x.t.int, .string ⟨x.t.name.toArray⟩, .int .i64 x.t.at_, .slice x.A x.t.kids.length x.c, .slice x.B x.t.clauses.length x.d, .slice x.C x.t.body.length x.e] 26)) := by
  have h1 := h0.lt
  have h2 := hp1.obj.lt
  have h3 := hf.size
  have hba := below_alloc V2 (.cells #[.int .i64 x.t.kind, .int .i64 x.t.int, .string ⟨x.t.name.toArray⟩, .int .i64 x.t.at_, .slice x.A x.t.kids.length x.c, .slice x.B x.t.clauses.length x.d, .slice x.C x.t.body.length x.e] 26)
  have hb2 : Below V0.heap.size V0 V2 := hb1.trans (hf.below hb1.size (fun k hk => by omega))
  refine ⟨(h0.keep hb2).keep hba, Blk.new _ _ _, by omega, by omega, hp2.keep hba, ?_, below_step (below_step hb0 hb2) hba⟩
  refine (hok.move (S' := fun k => k ≤ pb) (.of_below (Below.refl _ _) fun k _ h => ?_)).move (.of_below hba fun _ _ h => h)
  show k < V1.heap.size
  have : k ≤ pb := h
  omega
end
theorem zero_ok {S : Nat → Prop} {W : World} : (⟨.zero, none, 0, none, 0, none, 0⟩ : EN).Ok S W := ⟨RdN.nil_ S W none (Nat.zero_le _), RdC.nil_ S W none (Nat.zero_le _), RdN.nil_ S W none (Nat.zero_le _)⟩

set_option maxRecDepth 100000 in
set_option maxHeartbeats 4000000 in
theorem expr_any (W : World) (s : List UInt8) (r : ND × Int × Int) (hr : exprP s = some r) : Calls Try.prog 5 #[.string ⟨s.toArray⟩] W (XEnd W r) := by
  have HBG : Hid (∀ V, Calls Try.prog 9 #[.string ⟨s.toArray⟩] V fun e w' => ∃ pb A c, e = .returned (.pointer (some ⟨pb, 0, none⟩)) ∧ V.heap.size ≤ pb ∧ PAt pb A c (scanP s).toks s.length ⟨0, (scanP s).e, ((scanP s).at_ : Nat)⟩ w' ∧ Below V.heap.size V w') := fun V => begin_any V s
  have hlen := scanP_len s
  unfold exprP at hr
  obtain ⟨T, hT⟩ : ∃ T, (scanP s).toks = T := ⟨_, rfl⟩
  obtain ⟨fin, hfin⟩ : ∃ fin, s.length = fin := ⟨_, rfl⟩
  obtain ⟨s0, hs0⟩ : ∃ s0 : PS, s0 = ⟨0, (scanP s).e, ((scanP s).at_ : Nat)⟩ := ⟨_, rfl⟩
  rw [hT, hfin, ← hs0] at HBG hr
  rw [hT] at hlen
  obtain ⟨q, hq, hre⟩ := bind_inv hr
  have HEX : Hid (∀ pb A c V, PAt pb A c T fin s0 V → Calls Try.prog 10 #[.pointer (some ⟨pb, 0, none⟩), .int .i64 0] V (NEnd pb A c T fin V q)) := fun pb A c V hV => (all_ok (fuelP T)).expr 0 s0 V q (by simp only [fuelP, deepB]; omega) hq hV
  have HFL : Hid (∀ pb A c V s, PAt pb A c T fin s V → Calls Try.prog 11 #[.pointer (some ⟨pb, 0, none⟩), .int .i64 110] V fun r w' => r = .returned (.tuple #[]) ∧ PAt pb A c T fin (failP T fin 110 s) w' ∧ PFr pb V w') := fun pb A c V s hV => pfail_any hV 110
  have HRE := Lib.hid (Option.some.inj hre)
  have HST : Hid (ZBx (W.alloc (.cells #[.int .i64 0, .int .i64 0, .string ⟨#[]⟩, .int .i64 0, .slice none 0 0, .slice none 0 0, .slice none 0 0] 26)) W.heap.size ∧ Below W.heap.size W (W.alloc (.cells #[.int .i64 0, .int .i64 0, .string ⟨#[]⟩, .int .i64 0, .slice none 0 0, .slice none 0 0, .slice none 0 0] 26))) := ⟨Blk.new _ _ _, below_alloc _ _⟩
  clear hq hre hr hT hfin hs0
  go_enter Try.func5, Try.ntmps5
  go_upto_region 1 with (fail)
  refine wp_world (fun V => ZBx V W.heap.size ∧ Below W.heap.size W V) HST.out ?_
  rintro V0 ⟨hz, hb0⟩
  clear HST
  go_upto_region 3 with (first
    | (go_at_call 9; refine (HBG.out _).mono ?_; rintro e V1 ⟨pb, A, c, rfl, hpb, hp1, hb1⟩)
    | (go_at_call 10; refine (HEX.out _ _ _ _ hp1).mono ?_; rintro e V2 ⟨x, hx, rfl, hok, hp2, hf2⟩; replace hx := Lib.hid hx))
  have HI := Lib.hid (XI.start hz hb0 hpb hp1 hb1 hok hp2 hf2)
  obtain ⟨g, hg⟩ : ∃ g, V2.heap.size = g := ⟨_, rfl⟩
  rw [hg] at HI ⊢
  refine wp_world (fun V => XI pb A c T fin W g x q.2 V) HI.out ?_
  clear HI hg hp1 hb1 hok hp2 hf2 hz hb0 hpb HBG HEX
  intro V3 hI
  have HI := Lib.hid hI
  have hti := hI.p.hi
  obtain ⟨k0, k1, k2, k3, k4⟩ := hI.p.cells
  clear hI
  by_cases hd : q.2.i < T.length
  case' pos =>
    have d1 : decide (q.2.i < T.length) = true := by simp; omega
    have HSD := Lib.hid (show failP T fin 110 q.2 = (if q.2.i < T.length then failP T fin 110 q.2 else q.2) by rw [if_pos hd])
    clear hd
    go_wp2
    go_quiet (fail)
    go_upto_region 5 with (go_at_call 11; refine (HFL.out _ _ _ _ _ (HI.out.keep (below_drewN (Below.refl _ _) _)).p).mono ?_; rintro e V4 ⟨rfl, hp4, hf4⟩)
    refine wp_world (fun V => XI pb A c T fin W g x (if q.2.i < T.length then failP T fin 110 q.2 else q.2) V) (by rw [← HSD.out]; exact (HI.out.keep (below_drewN (Below.refl _ _) _)).act hp4 hf4) ?_
    clear hp4 hf4 HSD d1 HFL HI k0 k1 k2 k3 k4
  case' neg =>
    have d1 : decide (q.2.i < T.length) = false := by simp; omega
    have HSD := Lib.hid (show q.2 = (if q.2.i < T.length then failP T fin 110 q.2 else q.2) by rw [if_neg hd])
    clear hd
    go_wp2
    go_quiet (fail)
    go_upto_region 5 with (fail)
    refine wp_world (fun V => XI pb A c T fin W g x (if q.2.i < T.length then failP T fin 110 q.2 else q.2) V) (by rw [← HSD.out]; exact HI.out.keep (below_drewN (Below.refl _ _) _)) ?_
    clear HSD d1 HFL HI k0 k1 k2 k3 k4
  all_goals
    obtain ⟨p, hp⟩ : ∃ p, (if q.2.i < T.length then failP T fin 110 q.2 else q.2) = p := ⟨_, rfl⟩
    rw [hp] at HRE ⊢
    clear hp
    intro V5 hI5
    have HI5 := Lib.hid hI5
    obtain ⟨k0, k1, k2, k3, k4⟩ := hI5.p.cells
    obtain ⟨z0, z1, z2, z3, z4, z5, z6, f0, f1, f2, f3, f4, f5, f6⟩ := zbx_facts hI5.res
    obtain ⟨b0, b1, b2, b3, b4, b5, b6⟩ := hI5.box.cells
    have hpb5 := hI5.gp
    clear hI5 hti
    by_cases he : p.e = 0
    · have d2 : (p.e != 0) = false := by simpa using he
      have HRE2 := Lib.hid (show (q.1, (0 : Int), (0 : Int)) = r by have := HRE.out; simpa only [he, ne_eq, not_true_eq_false, if_false] using this)
      clear he HRE
      go_wp2
      refine q_bp_world (fun V => NBx V W.heap.size x ∧ Fr (fun k => k = W.heap.size) V5 V) ⟨put7_blk HI5.out.res _ _ _ _ _ _ _, put7_fr _ _ _ _ _ _ _ _ _⟩ ?_
      rintro V6 ⟨hB6, hF6⟩
      obtain ⟨x0, x1, x2, x3, x4, x5, x6⟩ := hB6.cells
      refine bodyPost_ret (v := .tuple #[.agg #[.int .i64 x.t.kind, .int .i64 x.t.int, .string ⟨x.t.name.toArray⟩, .int .i64 x.t.at_, .slice x.A x.t.kids.length x.c, .slice x.B x.t.clauses.length x.d, .slice x.C x.t.body.length x.e], .int .i64 0, .int .i64 0]) (by simp [results, Try.results5, go_sem, x0, x1, x2, x3, x4, x5, x6]) rfl ?_
      refine ⟨x, by rw [← HRE2.out]; exact hx.out, by rw [← HRE2.out], (HI5.out.ok.move (.of_fr hF6 (fun k hk => by omega) (fun k _ h => ?_))), HI5.out.hb.trans (hF6.below HI5.out.hb.size (fun k hk => by omega))⟩
      show k ≤ pb
      have : k < W.heap.size := h
      omega
    · have d2 : (p.e != 0) = true := by simpa using he
      have HRE2 := Lib.hid (show (ND.zero, p.e, p.at_) = r by have := HRE.out; simpa only [he, ne_eq, not_false_eq_true, if_true] using this)
      clear he HRE
      go_wp2
      go_region
      go_wp2
      refine q_bp_world (fun V => ZBx V W.heap.size ∧ Fr (fun k => k = W.heap.size) V5 V) ⟨(Fr.refl (fun _ => False) _).drew.blk (put7_blk HI5.out.res _ _ _ _ _ _ _) (fun h => h), (put7_fr _ _ _ _ _ _ _ _ _).drew⟩ ?_
      rintro V6 ⟨hB6, hF6⟩
      obtain ⟨x0, x1, x2, x3, x4, x5, x6, _⟩ := zbx_facts hB6
      refine bodyPost_ret (v := .tuple #[.agg #[.int .i64 0, .int .i64 0, .string ⟨#[]⟩, .int .i64 0, .slice none 0 0, .slice none 0 0, .slice none 0 0], .int .i64 p.e, .int .i64 p.at_]) (by simp [results, Try.results5, go_sem, x0, x1, x2, x3, x4, x5, x6]) rfl ?_
      exact ⟨⟨.zero, none, 0, none, 0, none, 0⟩, by rw [← HRE2.out], by rw [← HRE2.out]; rfl, zero_ok, HI5.out.hb.trans (hF6.below HI5.out.hb.size (fun k hk => by omega))⟩
end Go.Proofs.Ythhindnjnijglaa
