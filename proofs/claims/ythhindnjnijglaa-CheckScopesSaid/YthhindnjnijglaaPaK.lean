/- Layer 11: the walks of maybe, tail, head. Layer 11: the walks of sign, call. -/
import Derived.Test.YthhindnjnijglaaPaI
namespace Go.Proofs.Ythhindnjnijglaa
section
open Go.RowKit
set_option linter.unusedVariables false
/-- A clause's box. -/
abbrev CBx (W : World) (g : Nat) (x : EC) : Prop := Blk W g 67 #[.slice x.A x.t.patterns.length x.c, .slice x.B x.t.guards.length x.d, .slice x.C x.t.body.length x.e, .string ⟨x.t.name.toArray⟩, .int .i64 x.t.at_]
abbrev CZx (W : World) (g : Nat) : Prop := Blk W g 67 #[.slice none 0 0, .slice none 0 0, .slice none 0 0, .string ⟨#[]⟩, .int .i64 0]
section
variable {W : World} {g : Nat} {x : EC}
theorem CBx.facts (h : CBx W g x) : W.cell? ⟨g, 0, none⟩ = some (.slice x.A x.t.patterns.length x.c) ∧ W.cell? ⟨g, 1, none⟩ = some (.slice x.B x.t.guards.length x.d) ∧ W.cell? ⟨g, 2, none⟩ = some (.slice x.C x.t.body.length x.e) ∧ W.cell? ⟨g, 3, none⟩ = some (.string ⟨x.t.name.toArray⟩) ∧ W.cell? ⟨g, 4, none⟩ = some (.int .i64 x.t.at_) ∧ W.frozen? ⟨g, 0, none⟩ = false ∧ W.frozen? ⟨g, 1, none⟩ = false ∧ W.frozen? ⟨g, 2, none⟩ = false ∧ W.frozen? ⟨g, 3, none⟩ = false ∧ W.frozen? ⟨g, 4, none⟩ = false :=
  ⟨h.cell 0, h.cell 1, h.cell 2, h.cell 3, h.cell 4, h.frozen 0, h.frozen 1, h.frozen 2, h.frozen 3, h.frozen 4⟩
theorem czx_facts (h : CZx W g) : W.cell? ⟨g, 0, none⟩ = some (.slice none 0 0) ∧ W.cell? ⟨g, 1, none⟩ = some (.slice none 0 0) ∧ W.cell? ⟨g, 2, none⟩ = some (.slice none 0 0) ∧ W.cell? ⟨g, 3, none⟩ = some (.string ⟨#[]⟩) ∧ W.cell? ⟨g, 4, none⟩ = some (.int .i64 0) ∧ W.frozen? ⟨g, 0, none⟩ = false ∧ W.frozen? ⟨g, 1, none⟩ = false ∧ W.frozen? ⟨g, 2, none⟩ = false ∧ W.frozen? ⟨g, 3, none⟩ = false ∧ W.frozen? ⟨g, 4, none⟩ = false :=
  ⟨h.cell 0, h.cell 1, h.cell 2, h.cell 3, h.cell 4, h.frozen 0, h.frozen 1, h.frozen 2, h.frozen 3, h.frozen 4⟩
end
/-- A clause that is being made: its box, the result's box behind it. -/
structure TlI (pb : Nat) (A : Option Addr) (c : Nat) (T : List Tok) (fin : Nat) (S : Nat → Prop) (W : World) (x : EC) (s : PS) (V : World) : Prop where
  p : PAt pb A c T fin s V
  fr : PFr pb W V
  box : CBx V W.heap.size x
  res : CZx V (W.heap.size + 1)
  ok : x.Ok (fun k => S k ∨ k = W.heap.size ∨ k = W.heap.size + 1) V
  lt : ∀ k, S k → k < W.heap.size
  pb : S pb
section
variable {pb : Nat} {A : Option Addr} {c : Nat} {T : List Tok} {fin : Nat} {W : World} {S : Nat → Prop} {x : EC} {s s' : PS} {V V' : World}
theorem TlI.start (hp : PAt pb A c T fin s W) (hx : x.Ok S W) (hlt : ∀ k, S k → k < W.heap.size) (hS : S pb) : TlI pb A c T fin S W x s ((W.alloc (.cells #[.slice x.A x.t.patterns.length x.c, .slice x.B x.t.guards.length x.d, .slice x.C x.t.body.length x.e, .string ⟨x.t.name.toArray⟩, .int .i64 x.t.at_] 67)).alloc (.cells #[.slice none 0 0, .slice none 0 0, .slice none 0 0, .string ⟨#[]⟩, .int .i64 0] 67)) := by
  have hb := below_step (below_alloc W (.cells #[.slice x.A x.t.patterns.length x.c, .slice x.B x.t.guards.length x.d, .slice x.C x.t.body.length x.e, .string ⟨x.t.name.toArray⟩, .int .i64 x.t.at_] 67)) (below_alloc _ (.cells #[.slice none 0 0, .slice none 0 0, .slice none 0 0, .string ⟨#[]⟩, .int .i64 0] 67))
  have h1 : (W.alloc (.cells #[.slice x.A x.t.patterns.length x.c, .slice x.B x.t.guards.length x.d, .slice x.C x.t.body.length x.e, .string ⟨x.t.name.toArray⟩, .int .i64 x.t.at_] 67)).heap.size = W.heap.size + 1 := by simp
  refine ⟨hp.keep hb, Fr.of_below hb _, (Blk.new _ _ _).alloc _, ?_, hx.move (.of_below hb fun k hk h => by rcases h with h | h | h; exact h; omega; omega), hlt, hS⟩
  rw [← h1]
  exact Blk.new _ _ _
theorem TlI.act (h : TlI pb A c T fin S W x s V) (hp : PAt pb A c T fin s' V') (hf : PFr pb V V') : TlI pb A c T fin S W x s' V' := by
  have h2 := h.lt pb h.pb
  exact ⟨hp, h.fr.same hf, hf.blk h.box (by show ¬ W.heap.size = pb; omega), hf.blk h.res (by show ¬ W.heap.size + 1 = pb; omega), h.ok.move (.of_fr hf (fun k hk => .inl (by have h9 : k = pb := hk; rw [h9]; exact h.pb)) fun _ _ h => h), h.lt, h.pb⟩
theorem TlI.size (h : TlI pb A c T fin S W x s V) : W.heap.size + 1 < V.heap.size := h.res.lt
/-- What is given behind it keeps off its boxes. -/
theorem TlI.off (h : TlI pb A c T fin S W x s V) {B : Option Addr} {d : Nat} {l : List ND} (hr : RdN (fun k => k < V.heap.size) V' B d l) : RdN (fun k => S k ∨ k = W.heap.size ∨ k = W.heap.size + 1) V' B d l := hr.move (.sub_ fun k _ hk => by
  have h1 := h.size
  show k < V.heap.size
  rcases hk with hk | hk | hk
  · have := h.lt k hk; omega
  · omega
  · omega)
/-- A part of the clause is stored. -/
theorem TlI.put {y : EC} (h : TlI pb A c T fin S W x s V) (hy : y.Ok (fun k => S k ∨ k = W.heap.size ∨ k = W.heap.size + 1) V) (hF : Fr (fun k => k = W.heap.size) V V') (hB : CBx V' W.heap.size y) : TlI pb A c T fin S W y s V' := by
  have h2 := h.lt pb h.pb
  exact ⟨h.p.far hF (by show ¬ pb = W.heap.size; omega) (fun b o e => by have := h.p.apart b o e; show ¬ b = W.heap.size; omega), h.fr.trans hF (fun k hk e => by have h9 : k = W.heap.size := e; omega), hB, hF.blk h.res (by show ¬ W.heap.size + 1 = W.heap.size; omega), hy.move (.of_fr hF (fun k hk => .inr (.inl hk)) fun _ _ h => h), h.lt, h.pb⟩
theorem TlI.give {y : EC} (h : TlI pb A c T fin S W x s V) (hy : y.Ok (fun k => S k ∨ k = W.heap.size ∨ k = W.heap.size + 1) V) (hF : Fr (fun k => k = W.heap.size + 1) V V') : y.Ok S V' ∧ PAt pb A c T fin s V' ∧ PFr pb W V' := by
  have h2 := h.lt pb h.pb
  exact ⟨hy.move (.of_fr hF (fun k hk => .inr (.inr hk)) fun _ _ h => .inl h), h.p.far hF (by show ¬ pb = W.heap.size + 1; omega) (fun b o e => by have := h.p.apart b o e; show ¬ b = W.heap.size + 1; omega), h.fr.trans hF (fun k hk e => by have h9 : k = W.heap.size + 1 := e; omega)⟩

set_option maxRecDepth 100000 in
set_option maxHeartbeats 2000000 in
theorem maybe_step {n : Nat} (H : ListOk pb A c T fin n) : MaybeOk pb A c T fin (n + 1) := by
  intro w deep s W r hdp hr hp
  have hr' : maybeN T fin (lang T fin n) w deep s = some r := hr
  unfold maybeN at hr'
  have HTK := Lib.hid (take_any hp w)
  cases hb : isP T w s with
  | true =>
    rw [hb, if_pos rfl] at hr' HTK
    have hre := Option.some.inj hr'
    subst hre
    clear hb hr' hr H hp
    go_enter Try.func64, Try.ntmps64
    go_wp2_with (go_at_call 21; refine HTK.out.mono ?_; rintro e V4 ⟨rfl, hp4, hf4⟩)
    go_ret
    exact ⟨none, 0, rfl, RdN.nil_ _ _ _ (Nat.zero_le _), hp4, hf4⟩
  | false =>
    rw [hb, if_neg (by simp)] at hr' HTK
    obtain ⟨q, hq, hl⟩ := bind_inv hr'
    have hre := Option.some.inj hl
    have HC : Hid (∀ V, PAt pb A c T fin s V → Calls Try.prog 71 #[.pointer (some ⟨pb, 0, none⟩), .int .i64 (deep : Int)] V (LEnd pb A c T fin V q)) := fun V hV => H deep s V q (by omega) hq hV
    have HMU : Hid (∀ V s, PAt pb A c T fin s V → Calls Try.prog 26 #[.pointer (some ⟨pb, 0, none⟩), .string ⟨w.toArray⟩] V fun r w' => r = .returned (.tuple #[]) ∧ PAt pb A c T fin (mustP T fin w s) w' ∧ PFr pb V w') := fun V s hV => must_any hV w
    subst hre
    clear hb hr' hr H hp hq hl
    go_enter Try.func64, Try.ntmps64
    go_wp2_with (first
      | (go_at_call 21; refine HTK.out.mono ?_; rintro e V4 ⟨rfl, hp4, hf4⟩)
      | (go_at_call 71; refine (HC.out _ hp4).mono ?_; rintro e V5 ⟨B, d, rfl, hrd, hp5, hf5⟩)
      | (go_at_call 26; refine (HMU.out _ _ hp5).mono ?_; rintro e V6 ⟨rfl, hp6, hf6⟩))
    go_ret
    have hlt := hp4.obj.lt
    exact ⟨B, d, rfl, hrd.move (.of_fr hf6 (fun k hk => by have h9 : k = pb := hk; show k < V4.heap.size; omega) fun k _ hk => Nat.lt_of_lt_of_le hk hf4.size), hp6, (hf4.same hf5).same hf6⟩


set_option maxRecDepth 100000 in
set_option maxHeartbeats 4000000 in
theorem tail_step {n : Nat} (H : ListOk pb A c T fin n) : TailOk pb A c T fin (n + 1) := by
  intro deep ps nm at_ B d s W r hdp hr hp S hlt hS hps
  have hr' : tailN T fin (lang T fin n) deep ps nm at_ s = some r := hr
  unfold tailN at hr'
  obtain ⟨g, hg, hr'⟩ := bind_inv hr'
  obtain ⟨b, hb, hr'⟩ := bind_inv hr'
  have hre := Option.some.inj hr'
  subst hre
  have HH := Lib.hid H
  have HB := Lib.hid hb
  have HST := Lib.hid (TlI.start (x := ⟨.mk ps [] [] nm at_, B, d, none, 0, none, 0⟩) hp ⟨hps, RdN.nil_ _ _ _ (Nat.zero_le _), RdN.nil_ _ _ _ (Nat.zero_le _)⟩ hlt hS)
  have HTK : Hid (∀ V s, PAt pb A c T fin s V → Calls Try.prog 21 #[.pointer (some ⟨pb, 0, none⟩), .string ⟨#[119, 104, 101, 110]⟩] V fun r w' => r = .returned (.bool (isP T sWhen s)) ∧ PAt pb A c T fin (if isP T sWhen s = true then nextP s else s) w' ∧ PFr pb V w') := fun V s hV => take_any hV sWhen
  clear hr hr' hb H hp hps hlt hS
  cases hw : isP T sWhen s with
  | true =>
    rw [hw, if_pos rfl] at hg
    have HC2 : Hid (∀ V, PAt pb A c T fin (nextP s) V → Calls Try.prog 71 #[.pointer (some ⟨pb, 0, none⟩), .int .i64 (deep : Int)] V (LEnd pb A c T fin V g)) := fun V hV => HH.out deep _ V g (by omega) hg hV
    have HT2 : Hid (∀ V, PAt pb A c T fin s V → Calls Try.prog 21 #[.pointer (some ⟨pb, 0, none⟩), .string ⟨#[119, 104, 101, 110]⟩] V fun r w' => r = .returned (.bool true) ∧ PAt pb A c T fin (nextP s) w' ∧ PFr pb V w') := fun V hV => by
      have := HTK.out V s hV
      rw [hw, if_pos rfl] at this
      exact this
    clear hw hg HTK
    go_enter Try.func65, Try.ntmps65
    go_upto_region 1 with (fail)
    refine wp_world (fun V => TlI pb A c T fin S W ⟨.mk ps [] [] nm at_, B, d, none, 0, none, 0⟩ s V) HST.out ?_
    clear HST
    intro V0 hI0
    go_upto_region 2 with (go_at_call 21; refine (HT2.out _ hI0.p).mono ?_; rintro e V1 ⟨rfl, hp1, hf1⟩)
    refine wp_world (fun V => TlI pb A c T fin S W ⟨.mk ps [] [] nm at_, B, d, none, 0, none, 0⟩ (nextP s) V) (hI0.act hp1 hf1) ?_
    clear hI0 hp1 hf1 HT2
    intro V2 hI2
    go_upto_region 3 with (go_at_call 71; refine (HC2.out _ hI2.p).mono ?_; rintro e V3 ⟨Bg, dg, rfl, hrg, hp3, hf3⟩; have hI3 := hI2.act hp3 hf3; have hoff := hI2.off hrg; obtain ⟨a0, a1, a2, a3, a4, f0, f1, f2, f3, f4⟩ := hI3.box.facts)
    have hI4 := hI3.put (y := ⟨.mk ps g.1 [] nm at_, B, d, Bg, dg, none, 0⟩) ⟨hI3.ok.patterns, hoff, hI3.ok.body⟩ (setC_fr V3 W.heap.size 1 (.slice Bg g.1.length dg)) (hI3.box.set_ 1 (.slice Bg g.1.length dg))
    refine wp_world (fun V => TlI pb A c T fin S W ⟨.mk ps g.1 [] nm at_, B, d, Bg, dg, none, 0⟩ g.2 V) hI4 ?_
    clear hI4 hoff hI3 hI2 hp3 hf3 hrg a0 a1 a2 a3 a4 f0 f1 f2 f3 f4 HC2
    intro V5 hI
    have HMU : Hid (∀ V, PAt pb A c T fin g.2 V → Calls Try.prog 26 #[.pointer (some ⟨pb, 0, none⟩), .string ⟨#[45, 62]⟩] V fun r w' => r = .returned (.tuple #[]) ∧ PAt pb A c T fin (mustP T fin sArrow g.2) w' ∧ PFr pb V w') := fun V hV => must_any hV sArrow
    have HC3 : Hid (∀ V, PAt pb A c T fin (mustP T fin sArrow g.2) V → Calls Try.prog 71 #[.pointer (some ⟨pb, 0, none⟩), .int .i64 (deep : Int)] V (LEnd pb A c T fin V b)) := fun V hV => HH.out deep _ V b (by omega) HB.out hV
    go_upto_region 4 with (go_at_call 26; refine (HMU.out _ hI.p).mono ?_; rintro e V6 ⟨rfl, hp6, hf6⟩)
    refine wp_world (fun V => TlI pb A c T fin S W ⟨.mk ps g.1 [] nm at_, B, d, Bg, dg, none, 0⟩ (mustP T fin sArrow g.2) V) (hI.act hp6 hf6) ?_
    clear hI hp6 hf6 HMU
    intro V7 hI7
    go_upto_region 5 with (go_at_call 71; refine (HC3.out _ hI7.p).mono ?_; rintro e V8 ⟨Bb, db, rfl, hrb, hp8, hf8⟩; have hI8 := hI7.act hp8 hf8; have hoff := hI7.off hrb; obtain ⟨a0, a1, a2, a3, a4, f0, f1, f2, f3, f4⟩ := hI8.box.facts)
    have hI9 := hI8.put (y := ⟨.mk ps g.1 b.1 nm at_, B, d, Bg, dg, Bb, db⟩) ⟨hI8.ok.patterns, hI8.ok.guards, hoff⟩ (setC_fr V8 W.heap.size 2 (.slice Bb b.1.length db)) (hI8.box.set_ 2 (.slice Bb b.1.length db))
    refine wp_world (fun V => TlI pb A c T fin S W ⟨.mk ps g.1 b.1 nm at_, B, d, Bg, dg, Bb, db⟩ b.2 V) hI9 ?_
    clear hI9 hoff hI8 hI7 hp8 hf8 hrb a0 a1 a2 a3 a4 f0 f1 f2 f3 f4 HC3
    intro V9 hI9
    obtain ⟨y, hy⟩ : ∃ y : EC, EC.mk (.mk ps g.1 b.1 nm at_) B d Bg dg Bb db = y := ⟨_, rfl⟩
    have HY := Lib.hid (show y.t = CD.mk ps g.1 b.1 nm at_ by rw [← hy])
    rw [hy] at hI9
    clear hy
    obtain ⟨a0, a1, a2, a3, a4, f0, f1, f2, f3, f4⟩ := hI9.box.facts
    obtain ⟨z0, z1, z2, z3, z4, e0, e1, e2, e3, e4⟩ := czx_facts hI9.res
    go_wp2
    have hE := hI9.give hI9.ok (put5_fr V9 (W.heap.size + 1) (.slice y.A y.t.patterns.length y.c) (.slice y.B y.t.guards.length y.d) (.slice y.C y.t.body.length y.e) (.string ⟨y.t.name.toArray⟩) (.int .i64 y.t.at_))
    refine q_bp_world (fun V => CBx V (W.heap.size + 1) y ∧ y.Ok S V ∧ PAt pb A c T fin b.2 V ∧ PFr pb W V) ⟨put5_blk hI9.res _ _ _ _ _, hE⟩ ?_
    rintro V10 ⟨hB10, w1, w2, w3⟩
    obtain ⟨x0, x1, x2, x3, x4, _⟩ := hB10.facts
    exact bodyPost_ret (v := .agg #[.slice y.A y.t.patterns.length y.c, .slice y.B y.t.guards.length y.d, .slice y.C y.t.body.length y.e, .string ⟨y.t.name.toArray⟩, .int .i64 y.t.at_]) (by simp [results, Try.results65, go_sem, x0, x1, x2, x3, x4]) rfl ⟨y, HY.out, rfl, w1, w2, w3⟩
  | false =>
    rw [hw, if_neg (by simp)] at hg
    have hge := Option.some.inj hg
    subst hge
    have HT2 : Hid (∀ V, PAt pb A c T fin s V → Calls Try.prog 21 #[.pointer (some ⟨pb, 0, none⟩), .string ⟨#[119, 104, 101, 110]⟩] V fun r w' => r = .returned (.bool false) ∧ PAt pb A c T fin s w' ∧ PFr pb V w') := fun V hV => by
      have := HTK.out V s hV
      rw [hw, if_neg (by simp)] at this
      exact this
    clear hw hg HTK
    go_enter Try.func65, Try.ntmps65
    go_upto_region 1 with (fail)
    refine wp_world (fun V => TlI pb A c T fin S W ⟨.mk ps [] [] nm at_, B, d, none, 0, none, 0⟩ s V) HST.out ?_
    clear HST
    intro V0 hI0
    go_upto_region 3 with (go_at_call 21; refine (HT2.out _ hI0.p).mono ?_; rintro e V1 ⟨rfl, hp1, hf1⟩)
    refine wp_world (fun V => TlI pb A c T fin S W ⟨.mk ps [] [] nm at_, B, d, none, 0, none, 0⟩ s V) (hI0.act hp1 hf1) ?_
    clear hI0 hp1 hf1 HT2
    intro V2 hI
    have HMU : Hid (∀ V, PAt pb A c T fin s V → Calls Try.prog 26 #[.pointer (some ⟨pb, 0, none⟩), .string ⟨#[45, 62]⟩] V fun r w' => r = .returned (.tuple #[]) ∧ PAt pb A c T fin (mustP T fin sArrow s) w' ∧ PFr pb V w') := fun V hV => must_any hV sArrow
    have HC3 : Hid (∀ V, PAt pb A c T fin (mustP T fin sArrow s) V → Calls Try.prog 71 #[.pointer (some ⟨pb, 0, none⟩), .int .i64 (deep : Int)] V (LEnd pb A c T fin V b)) := fun V hV => HH.out deep _ V b (by omega) HB.out hV
    go_upto_region 4 with (go_at_call 26; refine (HMU.out _ hI.p).mono ?_; rintro e V6 ⟨rfl, hp6, hf6⟩)
    refine wp_world (fun V => TlI pb A c T fin S W ⟨.mk ps [] [] nm at_, B, d, none, 0, none, 0⟩ (mustP T fin sArrow s) V) (hI.act hp6 hf6) ?_
    clear hI hp6 hf6 HMU
    intro V7 hI7
    go_upto_region 5 with (go_at_call 71; refine (HC3.out _ hI7.p).mono ?_; rintro e V8 ⟨Bb, db, rfl, hrb, hp8, hf8⟩; have hI8 := hI7.act hp8 hf8; have hoff := hI7.off hrb; obtain ⟨a0, a1, a2, a3, a4, f0, f1, f2, f3, f4⟩ := hI8.box.facts)
    have hI9 := hI8.put (y := ⟨.mk ps [] b.1 nm at_, B, d, none, 0, Bb, db⟩) ⟨hI8.ok.patterns, hI8.ok.guards, hoff⟩ (setC_fr V8 W.heap.size 2 (.slice Bb b.1.length db)) (hI8.box.set_ 2 (.slice Bb b.1.length db))
    refine wp_world (fun V => TlI pb A c T fin S W ⟨.mk ps [] b.1 nm at_, B, d, none, 0, Bb, db⟩ b.2 V) hI9 ?_
    clear hI9 hoff hI8 hI7 hp8 hf8 hrb a0 a1 a2 a3 a4 f0 f1 f2 f3 f4 HC3
    intro V9 hI9
    obtain ⟨y, hy⟩ : ∃ y : EC, EC.mk (.mk ps [] b.1 nm at_) B d none 0 Bb db = y := ⟨_, rfl⟩
    have HY := Lib.hid (show y.t = CD.mk ps [] b.1 nm at_ by rw [← hy])
    rw [hy] at hI9
    clear hy
    obtain ⟨a0, a1, a2, a3, a4, f0, f1, f2, f3, f4⟩ := hI9.box.facts
    obtain ⟨z0, z1, z2, z3, z4, e0, e1, e2, e3, e4⟩ := czx_facts hI9.res
    go_wp2
    have hE := hI9.give hI9.ok (put5_fr V9 (W.heap.size + 1) (.slice y.A y.t.patterns.length y.c) (.slice y.B y.t.guards.length y.d) (.slice y.C y.t.body.length y.e) (.string ⟨y.t.name.toArray⟩) (.int .i64 y.t.at_))
    refine q_bp_world (fun V => CBx V (W.heap.size + 1) y ∧ y.Ok S V ∧ PAt pb A c T fin b.2 V ∧ PFr pb W V) ⟨put5_blk hI9.res _ _ _ _ _, hE⟩ ?_
    rintro V10 ⟨hB10, w1, w2, w3⟩
    obtain ⟨x0, x1, x2, x3, x4, _⟩ := hB10.facts
    exact bodyPost_ret (v := .agg #[.slice y.A y.t.patterns.length y.c, .slice y.B y.t.guards.length y.d, .slice y.C y.t.body.length y.e, .string ⟨y.t.name.toArray⟩, .int .i64 y.t.at_]) (by simp [results, Try.results65, go_sem, x0, x1, x2, x3, x4]) rfl ⟨y, HY.out, rfl, w1, w2, w3⟩

set_option maxRecDepth 100000 in
set_option maxHeartbeats 4000000 in
theorem head_step {n : Nat} (H1 : MaybeOk pb A c T fin n) (H2 : TailOk pb A c T fin n) : HeadOk pb A c T fin (n + 1) := by
  intro deep nm at_ s W r hdp hr hp
  have hr' : headN T fin (lang T fin n) deep nm at_ s = some r := hr
  unfold headN at hr'
  obtain ⟨q, hq, hl⟩ := bind_inv hr'
  have hpb := hp.obj.lt
  have HMU : Hid (∀ V s, PAt pb A c T fin s V → Calls Try.prog 26 #[.pointer (some ⟨pb, 0, none⟩), .string ⟨#[40]⟩] V fun r w' => r = .returned (.tuple #[]) ∧ PAt pb A c T fin (mustP T fin sOpen s) w' ∧ PFr pb V w') := fun V s hV => must_any hV sOpen
  have HC : Hid (∀ V, PAt pb A c T fin (mustP T fin sOpen s) V → Calls Try.prog 64 #[.pointer (some ⟨pb, 0, none⟩), .string ⟨#[41]⟩, .int .i64 (deep : Int)] V (LEnd pb A c T fin V q)) := fun V hV => H1 sShut deep _ V q (by omega) hq hV
  have HTL : Hid (∀ V B d, PAt pb A c T fin q.2 V → ∀ S : Nat → Prop, (∀ k, S k → k < V.heap.size) → S pb → RdN S V B d q.1 → Calls Try.prog 65 #[.pointer (some ⟨pb, 0, none⟩), .agg #[.slice B q.1.length d, .slice none 0 0, .slice none 0 0, .string ⟨nm.toArray⟩, .int .i64 at_], .int .i64 (deep : Int)] V
      fun e w' => ∃ x : EC, x.t = r.1 ∧ e = .returned (.agg #[.slice x.A x.t.patterns.length x.c, .slice x.B x.t.guards.length x.d, .slice x.C x.t.body.length x.e, .string ⟨x.t.name.toArray⟩, .int .i64 x.t.at_]) ∧ x.Ok S w' ∧ PAt pb A c T fin r.2 w' ∧ PFr pb V w') := fun V B d hV S h1 h2 h3 => H2 deep q.1 nm at_ B d q.2 V r (by omega) hl hV S h1 h2 h3
  have HST := Lib.hid (TlI.start (S := fun k => k < W.heap.size) (x := ⟨.mk [] [] [] nm at_, none, 0, none, 0, none, 0⟩) hp ⟨RdN.nil_ _ _ _ (Nat.zero_le _), RdN.nil_ _ _ _ (Nat.zero_le _), RdN.nil_ _ _ _ (Nat.zero_le _)⟩ (fun _ h => h) hpb)
  clear hr hr' hq hl H1 H2 hp
  go_enter Try.func51, Try.ntmps51
  go_upto_region 1 with (fail)
  refine wp_world (fun V => TlI pb A c T fin (fun k => k < W.heap.size) W ⟨.mk [] [] [] nm at_, none, 0, none, 0, none, 0⟩ s V) HST.out ?_
  clear HST
  intro V0 hI0
  go_upto_region 2 with (go_at_call 26; refine (HMU.out _ _ hI0.p).mono ?_; rintro e V1 ⟨rfl, hp1, hf1⟩)
  refine wp_world (fun V => TlI pb A c T fin (fun k => k < W.heap.size) W ⟨.mk [] [] [] nm at_, none, 0, none, 0, none, 0⟩ (mustP T fin sOpen s) V) (hI0.act hp1 hf1) ?_
  clear hI0 hp1 hf1 HMU
  intro V2 hI2
  go_upto_region 3 with (go_at_call 64; refine (HC.out _ hI2.p).mono ?_; rintro e V3 ⟨Bg, dg, rfl, hrg, hp3, hf3⟩; have hI3 := hI2.act hp3 hf3; have hoff := hI2.off hrg; obtain ⟨a0, a1, a2, a3, a4, f0, f1, f2, f3, f4⟩ := hI3.box.facts)
  have hI4 := hI3.put (y := ⟨.mk q.1 [] [] nm at_, Bg, dg, none, 0, none, 0⟩) ⟨hoff, hI3.ok.guards, hI3.ok.body⟩ (setC_fr V3 W.heap.size 0 (.slice Bg q.1.length dg)) (hI3.box.set_ 0 (.slice Bg q.1.length dg))
  refine wp_world (fun V => TlI pb A c T fin (fun k => k < W.heap.size) W ⟨.mk q.1 [] [] nm at_, Bg, dg, none, 0, none, 0⟩ q.2 V) hI4 ?_
  clear hI4 hoff hI3 hI2 hp3 hf3 hrg a0 a1 a2 a3 a4 f0 f1 f2 f3 f4 HC
  intro V5 hI
  obtain ⟨a0, a1, a2, a3, a4, _⟩ := hI.box.facts
  have HT2 := Lib.hid (HTL.out V5 Bg dg hI.p (fun k => k < W.heap.size ∨ k = W.heap.size ∨ k = W.heap.size + 1) (fun k hk => by have := hI.size; omega) (.inl hpb) hI.ok.patterns)
  have HI := Lib.hid hI
  clear hI HTL
  simp only [CD.patterns, CD.guards, CD.body, CD.name, CD.at_, List.length_nil] at a0 a1 a2 a3 a4
  go_wp2_with (go_at_call 65; refine HT2.out.mono ?_; rintro e V6 ⟨y, hy, rfl, hok, hp6, hf6⟩; replace hy := Lib.hid hy; have hI6 := HI.out.act hp6 hf6; obtain ⟨z0, z1, z2, z3, z4, e0, e1, e2, e3, e4⟩ := czx_facts hI6.res)
  have hE := hI6.give (y := y) hok (put5_fr V6 (W.heap.size + 1) (.slice y.A y.t.patterns.length y.c) (.slice y.B y.t.guards.length y.d) (.slice y.C y.t.body.length y.e) (.string ⟨y.t.name.toArray⟩) (.int .i64 y.t.at_))
  refine q_bp_world (fun V => CBx V (W.heap.size + 1) y ∧ y.Ok (fun k => k < W.heap.size) V ∧ PAt pb A c T fin r.2 V ∧ PFr pb W V) ⟨put5_blk hI6.res _ _ _ _ _, hE⟩ ?_
  rintro V10 ⟨hB10, w1, w2, w3⟩
  obtain ⟨x0, x1, x2, x3, x4, _⟩ := hB10.facts
  exact bodyPost_ret (v := .agg #[.slice y.A y.t.patterns.length y.c, .slice y.B y.t.guards.length y.d, .slice y.C y.t.body.length y.e, .string ⟨y.t.name.toArray⟩, .int .i64 y.t.at_]) (by simp [results, Try.results51, go_sem, x0, x1, x2, x3, x4]) rfl ⟨y, hy.out, rfl, w1, w2, w3⟩

end
end
section
open Go.RowKit
set_option linter.unusedVariables false
section
variable {pb : Nat} {A : Option Addr} {c : Nat} {T : List Tok} {fin : Nat} {W : World}
/-- The node in the box is another one. -/
theorem BinI.put {g : Nat} {x y : EN} {s : PS} {V V' : World} (h : BinI pb A c T fin W g x s V) (hy : y.Ok (fun k => k ≤ W.heap.size ∨ k = g) V) (hF : Fr (fun k => k = g) V V') (hB : NBx V' g y) : BinI pb A c T fin W g y s V' := by
  have h1 := h.g
  have h2 := h.pb
  exact ⟨h.p.far hF (by show ¬ pb = g; omega) (fun b o e => by have := h.p.apart b o e; show ¬ b = g; omega), h.fr.trans hF (fun k hk e => by have h9 : k = g := e; omega), hF.blk h.res (by show ¬ W.heap.size = g; omega), hB, hy.move (.of_fr hF (fun k hk => .inr hk) fun _ _ h => h), h1, h2⟩
/-- What is given behind it keeps off its boxes. -/
theorem BinI.off {g : Nat} {x : EN} {s : PS} {V V' : World} (h : BinI pb A c T fin W g x s V) {B : Option Addr} {d : Nat} {l : List ND} (hr : RdN (fun k => k < V.heap.size) V' B d l) : RdN (fun k => k ≤ W.heap.size ∨ k = g) V' B d l := hr.move (.sub_ fun k _ hk => by
  have h1 := h.a.lt
  have h2 := h.g
  show k < V.heap.size
  rcases hk with hk | hk <;> omega)
/-- The node and others, in a new row. -/
theorem BinI.row {g : Nat} {x : EN} {s : PS} {V w' : World} (h : BinI pb A c T fin W g x s V) {xs : List EN} (hxs : ∀ y ∈ xs, y.Ok (fun k => k ≤ W.heap.size ∨ k = g) V) {cs : Array Value} (hcs : cs = (enL [x]).toArray) {v' : Value} {n : Nat} (hn : n = xs.length)
    (ho : w'.ownsRow (W.heap.size + 1) 26 7 v' (1 + n) (enL [x] ++ enL xs)) (hg : (V.alloc (.cells cs 26)).grownBy w' (some V.heap.size)) (hv : v'.ownBlock = some V.heap.size ∨ v'.ownBlock = some (V.alloc (.cells cs 26)).heap.size) :
    BinI pb A c T fin W g x s w' ∧ ∃ B d, v' = .slice B (n + 1) d ∧ RdN (fun k => k ≤ W.heap.size ∨ k = g) w' B d (x.t :: xs.map (fun y : EN => y.t)) := by
  subst hcs hn
  have h1 := h.g
  have h2 := h.a.lt
  have h0 := h.res.lt
  have ha := below_alloc V (.cells (enL [x]).toArray 26)
  have hb : Below V.heap.size V w' := ⟨hg.os.trans ha.os, hg.tape.trans ha.tape, hg.output.trans ha.output, Nat.le_trans ha.size hg.size, fun k hk => (hg.block k (Nat.lt_of_lt_of_le hk ha.size) (fun e => by have := Option.some.inj e; omega)).trans (ha.block k hk)⟩
  have hS : ∀ k, (k ≤ W.heap.size ∨ k = g) → k < V.heap.size := fun k hk => by rcases hk with hk | hk <;> omega
  have hR := Rw.one (W0 := W) (B := W.heap.size + 1) (S := fun k => k ≤ W.heap.size ∨ k = g) (V := V) (x := x) hS h.ok h0 rfl
  have hA := hR.app (ys := xs) (w' := w') (v' := v') (fun y hy => (hxs y hy).move (.of_below ha fun k hlt hk => by
    rcases hk with hk | hk
    · exact hk
    · have : V.heap.size = k := Option.some.inj hk
      omega)) ho hg hv
  obtain ⟨B, d, rfl⟩ := hA.form
  refine ⟨h.keep hb, B, d, by rw [List.length_append, List.length_singleton, Nat.add_comm], ?_⟩
  have := hA.rdn rfl
  rwa [List.map_append, List.map_singleton, List.singleton_append] at this

set_option maxRecDepth 100000 in
set_option maxHeartbeats 8000000 in
theorem sign_step {n : Nat} (H1 : NodeOk pb A c T fin 76 Lang.call n) (H : NodeOk pb A c T fin 75 Lang.sign n) : NodeOk pb A c T fin 75 Lang.sign (n + 1) := by
  intro deep s W r hdp hr hp
  have hl : signN T fin (lang T fin n) deep s = some r := hr
  unfold signN at hl
  have hlen := hp.len
  have HPL : Hid (∀ V s, PAt pb A c T fin s V → Calls Try.prog 20 #[.pointer (some ⟨pb, 0, none⟩)] V fun e w' => e = .returned (.int .i64 (placeP T fin s)) ∧ Below V.heap.size V w') := fun V s hV => place_any hV
  have HOP : Hid (∀ V s, PAt pb A c T fin s V → Calls Try.prog 69 #[.pointer (some ⟨pb, 0, none⟩), .slice (some ⟨V.heap.size, 0, none⟩) 2 2] (V.alloc (.cells #[.string ⟨#[45]⟩, .string ⟨#[110, 111, 116]⟩] 9)) fun r w' => r = .returned (.string ⟨((opP T sSign s).getD []).toArray⟩) ∧ PAt pb A c T fin (opS T sSign s) w' ∧ PFr pb V w') := fun V s hV => op_made hV sSign rfl (by simp [sSign])
  have HFL : Hid (∀ V s, PAt pb A c T fin s V → Calls Try.prog 11 #[.pointer (some ⟨pb, 0, none⟩), .int .i64 111] V fun r w' => r = .returned (.tuple #[]) ∧ PAt pb A c T fin (failP T fin 111 s) w' ∧ PFr pb V w') := fun V s hV => pfail_any hV 111
  have HST := Lib.hid (ZI.start hp)
  have HH1 := Lib.hid H1
  have HH := Lib.hid H
  obtain ⟨s0, hs0⟩ : ∃ s0, deepP T fin deep s = s0 := ⟨_, rfl⟩
  rw [hs0] at hl
  have HS0 := Lib.hid hs0
  have HLL := Lib.hid hl
  clear hr hl H hp H1 hs0
  go_enter Try.func75, Try.ntmps75
  go_upto_region 1 with (fail)
  refine wp_world (fun V => ZI pb A c T fin W s V) HST.out ?_
  intro V0 hz0
  clear HST
  have HZ0 := Lib.hid hz0
  clear hz0
  by_cases hd : 64 < deep
  case' pos =>
    have d1 : decide ((64 : Int) < (deep : Int)) = true := by simp; omega
    have HSD := Lib.hid (show failP T fin 111 s = s0 by rw [← HS0.out]; unfold deepP; rw [if_pos hd])
    clear hd
    go_upto_region 3 with (go_at_call 11; refine (HFL.out _ _ HZ0.out.p).mono ?_; rintro e V1 ⟨rfl, hp1, hf1⟩)
    refine wp_world (fun V => ZI pb A c T fin W s0 V) (by rw [← HSD.out]; exact HZ0.out.act hp1 hf1) ?_
    clear hp1 hf1 HSD d1 HFL HZ0
  case' neg =>
    have d1 : decide ((64 : Int) < (deep : Int)) = false := by simp; omega
    have HSD := Lib.hid (show s = s0 by rw [← HS0.out]; unfold deepP; rw [if_neg hd])
    clear hd
    go_upto_region 3 with (fail)
    refine wp_world (fun V => ZI pb A c T fin W s0 V) (by rw [← HSD.out]; exact HZ0.out) ?_
    clear HSD d1 HFL HZ0
  all_goals
    intro V2 hz2
    have HP2 := Lib.hid (HPL.out V2 s0 hz2.p)
    obtain ⟨pl, hpl⟩ : ∃ pl, placeP T fin s0 = pl := ⟨_, rfl⟩
    rw [hpl] at HP2 HLL
    have HI := Lib.hid hz2
    clear hpl hz2 HS0
    have hdq : deep + (n + 1) ≤ 4611686018427387904 := hdp
    have q9 : IntKind.i64.wrap ((deep : Int) + 1) = ((deep + 1 : Nat) : Int) := by rw [IntKind.wrap_i64]; omega
    cases hb : opP T sSign s0 with
    | none =>
      have hl' := HLL.out
      rw [hb] at hl'
      have HC : Hid (∀ V, PAt pb A c T fin s0 V → Calls Try.prog 76 #[.pointer (some ⟨pb, 0, none⟩), .int .i64 (deep : Int)] V (NEnd pb A c T fin V r)) := fun V hV => HH1.out deep _ V r (by omega) hl' hV
      have HT2 : Hid (∀ V, PAt pb A c T fin s0 V → Calls Try.prog 69 #[.pointer (some ⟨pb, 0, none⟩), .slice (some ⟨V.heap.size, 0, none⟩) 2 2] (V.alloc (.cells #[.string ⟨#[45]⟩, .string ⟨#[110, 111, 116]⟩] 9)) fun r w' => r = .returned (.string ⟨#[]⟩) ∧ PAt pb A c T fin s0 w' ∧ PFr pb V w') := fun V hV => by
        have := HOP.out V s0 hV
        rw [hb, opS_none hb] at this
        exact this
      clear hl' hb HLL
      go_upto_region 6 with (first
        | (go_at_call 20; refine HP2.out.mono ?_; rintro e V3 ⟨rfl, hb3⟩)
        | (go_at_call 69; refine (HT2.out _ (HI.out.p.keep hb3)).mono ?_; rintro e V4 ⟨rfl, hp4, hf4⟩))
      refine wp_world (fun V => ZI pb A c T fin W s0 V) ((HI.out.keep hb3).act hp4 hf4) ?_
      clear hp4 hf4 hb3 HP2 HT2 HI
      intro V5 hI5
      go_wp2_with (go_at_call 76; refine (HC.out _ hI5.p).mono ?_; rintro e V6 ⟨x, hx, rfl, hok, hp6, hf6⟩; replace hx := Lib.hid hx; have hI6 := hI5.act hp6 hf6; obtain ⟨z0, z1, z2, z3, z4, z5, z6, f0, f1, f2, f3, f4, f5, f6⟩ := zbx_facts hI6.res)
      have hE := hI6.give (ok_le hok hI5.lt) (put7_fr V6 W.heap.size (.int .i64 x.t.kind) (.int .i64 x.t.int) (.string ⟨x.t.name.toArray⟩) (.int .i64 x.t.at_) (.slice x.A x.t.kids.length x.c) (.slice x.B x.t.clauses.length x.d) (.slice x.C x.t.body.length x.e))
      refine q_bp_world (fun V => NBx V W.heap.size x ∧ x.Ok (fun k => k < W.heap.size) V ∧ PAt pb A c T fin r.2 V ∧ PFr pb W V) ⟨put7_blk hI6.res _ _ _ _ _ _ _, hE⟩ ?_
      rintro V9 ⟨hB9, e1, e2, e3⟩
      obtain ⟨x0, x1, x2, x3, x4, x5, x6⟩ := hB9.cells
      obtain ⟨y9, hy9⟩ : ∃ y9, x = y9 := ⟨_, rfl⟩
      have HY9 : Hid (y9.t = r.1 ∧ r.2 = r.2) := by rw [← hy9]; exact ⟨hx.out, rfl⟩
      rw [hy9] at x0 x1 x2 x3 x4 x5 x6 e1
      exact bodyPost_ret (v := .agg #[.int .i64 y9.t.kind, .int .i64 y9.t.int, .string ⟨y9.t.name.toArray⟩, .int .i64 y9.t.at_, .slice y9.A y9.t.kids.length y9.c, .slice y9.B y9.t.clauses.length y9.d, .slice y9.C y9.t.body.length y9.e]) (by simp [results, Try.results75, go_sem, x0, x1, x2, x3, x4, x5, x6]) rfl ⟨y9, HY9.out.1, rfl, e1, by rw [← HY9.out.2]; exact e2, e3⟩
    | some w =>
      have hl' := HLL.out
      rw [hb] at hl'
      obtain ⟨q2, hq2, hl2⟩ := bind_inv hl'
      have HS2 : Hid (∀ V, PAt pb A c T fin (nextP s0) V → Calls Try.prog 75 #[.pointer (some ⟨pb, 0, none⟩), .int .i64 (((deep + 1 : Nat) : Nat) : Int)] V (NEnd pb A c T fin V q2)) := fun V hV => HH.out (deep + 1) _ V q2 (by omega) hq2 hV
      have HRE := Lib.hid (Option.some.inj hl2)
      have HT2 : Hid (∀ V, PAt pb A c T fin s0 V → Calls Try.prog 69 #[.pointer (some ⟨pb, 0, none⟩), .slice (some ⟨V.heap.size, 0, none⟩) 2 2] (V.alloc (.cells #[.string ⟨#[45]⟩, .string ⟨#[110, 111, 116]⟩] 9)) fun r w' => r = .returned (.string ⟨w.toArray⟩) ∧ PAt pb A c T fin (nextP s0) w' ∧ PFr pb V w') := fun V hV => by
        have := HOP.out V s0 hV
        rw [hb, opS_some hb] at this
        exact this
      have hne := ne_of_op hb (by simp [sSign])
      clear hl' hb HLL hq2 hl2
      go_upto_region 7 with (first
        | (go_at_call 20; refine HP2.out.mono ?_; rintro e V3 ⟨rfl, hb3⟩)
        | (go_at_call 69; refine (HT2.out _ (HI.out.p.keep hb3)).mono ?_; rintro e V4 ⟨rfl, hp4, hf4⟩))
      refine wp_world (fun V => ZI pb A c T fin W (nextP s0) V) ((HI.out.keep hb3).act hp4 hf4) ?_
      clear hp4 hf4 hb3 HP2 HT2 HI
      intro V5 hI5
      go_wp2_with (go_at_call 75; refine (HS2.out _ hI5.p).mono ?_; rintro e V6 ⟨x, hx, rfl, hok, hp6, hf6⟩; replace hx := Lib.hid hx; have hI6 := hI5.act hp6 hf6; have hlt6 := hI6.lt; obtain ⟨z0, z1, z2, z3, z4, z5, z6, f0, f1, f2, f3, f4, f5, f6⟩ := zbx_facts hI6.res)
      have hF9 := (put7_fr V6 W.heap.size (.int .i64 10) (.int .i64 0) (.string ⟨w.toArray⟩) (.int .i64 pl) (.slice (some ⟨V6.heap.size, 0, none⟩) 1 1) (.slice none 0 0) (.slice none 0 0)).alloc2 (put7_size V6 W.heap.size _ _ _ _ _ _ _) (.cells (enL [x]).toArray 26)
      have hE := (hI6.keep (below_alloc V6 (.cells (enL [x]).toArray 26))).give (one_le (ok_le hok hI5.lt) hI6.lt 10 w pl rfl) hF9
      have HB9 : NBx ((put7 V6 W.heap.size (.int .i64 10) (.int .i64 0) (.string ⟨w.toArray⟩) (.int .i64 pl) (.slice (some ⟨V6.heap.size, 0, none⟩) 1 1) (.slice none 0 0) (.slice none 0 0)).alloc (.cells (enL [x]).toArray 26)) W.heap.size (mkN 10 w pl [x.t] V6.heap.size 1) := (put7_blk hI6.res _ _ _ _ _ _ _).alloc _
      refine q_bp_world (fun V => NBx V W.heap.size (mkN 10 w pl [x.t] V6.heap.size 1) ∧ (mkN 10 w pl [x.t] V6.heap.size 1).Ok (fun k => k < W.heap.size) V ∧ PAt pb A c T fin q2.2 V ∧ PFr pb W V) ⟨HB9, hE⟩ ?_
      rintro V9 ⟨hB9, e1, e2, e3⟩
      obtain ⟨x0, x1, x2, x3, x4, x5, x6⟩ := hB9.cells
      obtain ⟨y9, hy9⟩ : ∃ y9, (mkN 10 w pl [x.t] V6.heap.size 1) = y9 := ⟨_, rfl⟩
      have HY9 : Hid (y9.t = r.1 ∧ q2.2 = r.2) := by rw [← hy9]; exact by rw [← HRE.out, ← hx.out]; exact ⟨rfl, rfl⟩
      rw [hy9] at x0 x1 x2 x3 x4 x5 x6 e1
      exact bodyPost_ret (v := .agg #[.int .i64 y9.t.kind, .int .i64 y9.t.int, .string ⟨y9.t.name.toArray⟩, .int .i64 y9.t.at_, .slice y9.A y9.t.kids.length y9.c, .slice y9.B y9.t.clauses.length y9.d, .slice y9.C y9.t.body.length y9.e]) (by simp [results, Try.results75, go_sem, x0, x1, x2, x3, x4, x5, x6]) rfl ⟨y9, HY9.out.1, rfl, e1, by rw [← HY9.out.2]; exact e2, e3⟩

set_option maxRecDepth 100000 in
set_option maxHeartbeats 8000000 in
theorem call_step {n : Nat} (H1 : NodeOk pb A c T fin 77 Lang.prim n) (H : ∀ m, m ≤ n → MaybeOk pb A c T fin m) : NodeOk pb A c T fin 76 Lang.call (n + 1) := by
  intro deep s W r hdp hr hp
  have hr' : callN T (lang T fin n) deep s = some r := hr
  unfold callN at hr'
  obtain ⟨q, hq, hl⟩ := bind_inv hr'
  have hlen := hp.len
  have HKD : Hid (∀ V, PAt pb A c T fin s V → Calls Try.prog 50 #[.pointer (some ⟨pb, 0, none⟩), .int .i64 2] V fun r w' => r = .returned (.bool (kindP T 2 s)) ∧ Below V.heap.size V w') := fun V hV => kind_any hV 2
  have HSUB : Hid (∀ V, PAt pb A c T fin s V → Calls Try.prog 77 #[.pointer (some ⟨pb, 0, none⟩), .int .i64 (deep : Int)] V (NEnd pb A c T fin V q)) := fun V hV => H1 deep s V q (by omega) hq hV
  obtain ⟨b0, hb0⟩ : ∃ b0, kindP T 2 s = b0 := ⟨_, rfl⟩
  rw [hb0] at HKD hl
  have HIT := Lib.hid H
  have HL := Lib.hid hl
  have HPL : Hid (∀ V s, PAt pb A c T fin s V → Calls Try.prog 20 #[.pointer (some ⟨pb, 0, none⟩)] V fun e w' => e = .returned (.int .i64 (placeP T fin s)) ∧ Below V.heap.size V w') := fun V s hV => place_any hV
  have HTK : Hid (∀ V s, PAt pb A c T fin s V → Calls Try.prog 21 #[.pointer (some ⟨pb, 0, none⟩), .string ⟨#[40]⟩] V fun r w' => r = .returned (.bool (isP T sOpen s)) ∧ PAt pb A c T fin (if isP T sOpen s = true then nextP s else s) w' ∧ PFr pb V w') := fun V s hV => take_any hV sOpen
  have HST := Lib.hid (ZI.start hp)
  clear hr hr' hq hl H hp H1 hb0
  go_enter Try.func76, Try.ntmps76
  go_upto_region 1 with (fail)
  refine wp_world (fun V => ZI pb A c T fin W s V) HST.out ?_
  intro V0 hz0
  clear HST
  go_upto_region 3 with (first
    | (go_at_call 50; refine (HKD.out _ hz0.p).mono ?_; rintro e V1 ⟨rfl, hb1⟩; have hz1 := hz0.keep hb1)
    | (go_at_call 77; refine (HSUB.out _ hz1.p).mono ?_; rintro e V3 ⟨x, hx, rfl, hok, hp3, hf3⟩; replace hx := Lib.hid hx))
  have HI := Lib.hid (BinI.start hz1.fr hz1.res hz1.pb hok hp3 hf3)
  obtain ⟨g, hg⟩ : ∃ g, V3.heap.size = g := ⟨_, rfl⟩
  rw [hg] at HI ⊢
  refine wp_world (fun V => BinI pb A c T fin W g x q.2 V) HI.out ?_
  have HL2 : Hid ((lang T fin n).callL deep b0 x.t q.2 = some r) := by rw [hx.out]; exact HL.out
  clear HI hg hp3 hf3 hok hx HSUB hz0 hb1 hz1 HL HKD
  intro V2 hI
  go_loopw [5, 7, 8] (fun v5 _ _ wx => ∃ (m : Nat) (y : EN) (s' : PS) (b : Bool), m ≤ n ∧ v5 = .bool b ∧ (lang T fin m).callL deep b y.t s' = some r ∧ BinI pb A c T fin W g y s' wx) (fun _ _ _ wx => T.length - posOf pb wx)
  case atStart => exact ⟨n, x, q.2, b0, Nat.le_refl _, rfl, HL2.out, hI⟩
  case round =>
    clear hI HL2
    obtain ⟨m, y, s', b, hm, rfl, hl, hI⟩ := hrel
    obtain _ | m := m
    · exact absurd hl (by simp [lang, Lang.none_])
    have hl' : callLN T fin (lang T fin m) deep b y.t s' = some r := hl
    unfold callLN at hl'
    have HP2 := Lib.hid (HPL.out wr s' hI.p)
    obtain ⟨pl, hpl⟩ : ∃ pl, placeP T fin s' = pl := ⟨_, rfl⟩
    rw [hpl] at HP2 hl'
    have HI := Lib.hid hI
    cases hb : isP T sOpen s' with
    | false =>
      rw [hb, if_neg (by simp)] at hl'
      have hre : (y.t, s') = r := Option.some.inj hl'
      have HT2 : Hid (∀ V, PAt pb A c T fin s' V → Calls Try.prog 21 #[.pointer (some ⟨pb, 0, none⟩), .string ⟨#[40]⟩] V fun r w' => r = .returned (.bool false) ∧ PAt pb A c T fin s' w' ∧ PFr pb V w') := fun V hV => by
        have := HTK.out V s' hV
        rw [hb, if_neg (by simp)] at this
        exact this
      clear hl' hb hl hpl
      subst hre
      go_upto_region 5 with (first
        | (go_at_call 20; refine HP2.out.mono ?_; rintro e V3 ⟨rfl, hb3⟩)
        | (go_at_call 21; refine (HT2.out _ (HI.out.p.keep hb3)).mono ?_; rintro e V4 ⟨rfl, hp4, hf4⟩))
      refine wp_world (fun V => BinI pb A c T fin W g y s' V) ((HI.out.keep hb3).act hp4 hf4) ?_
      clear hp4 hf4 hb3 HI hI HP2 HT2
      intro V5 hI5
      obtain ⟨a0, a1, a2, a3, a4, a5, a6⟩ := hI5.a.cells
      obtain ⟨z0, z1, z2, z3, z4, z5, z6, f0, f1, f2, f3, f4, f5, f6⟩ := zbx_facts hI5.res
      go_wp2
      refine q_bp_world (fun V => NBx V W.heap.size y ∧ Fr (fun k => k = W.heap.size) V5 V) ⟨put7_blk hI5.res _ _ _ _ _ _ _, put7_fr _ _ _ _ _ _ _ _ _⟩ ?_
      rintro V6 ⟨hB6, hF6⟩
      obtain ⟨x0, x1, x2, x3, x4, x5, x6⟩ := hB6.cells
      obtain ⟨e1, e2, e3⟩ := hI5.fin_ hF6
      exact bodyPost_ret (v := .agg #[.int .i64 y.t.kind, .int .i64 y.t.int, .string ⟨y.t.name.toArray⟩, .int .i64 y.t.at_, .slice y.A y.t.kids.length y.c, .slice y.B y.t.clauses.length y.d, .slice y.C y.t.body.length y.e]) (by simp [results, Try.results76, go_sem, x0, x1, x2, x3, x4, x5, x6]) rfl ⟨y, rfl, rfl, e1, e2, e3⟩
    | true =>
      rw [hb, if_pos rfl] at hl'
      obtain ⟨q2, hq2, hl2⟩ := bind_inv hl'
      have hdq : deep + (n + 1) ≤ 4611686018427387904 := hdp
      have q9 : IntKind.i64.wrap ((deep : Int) + 1) = ((deep + 1 : Nat) : Int) := by rw [IntKind.wrap_i64]; omega
      have HS2 : Hid (∀ V, PAt pb A c T fin (nextP s') V → Calls Try.prog 64 #[.pointer (some ⟨pb, 0, none⟩), .string ⟨#[41]⟩, .int .i64 (((deep + 1 : Nat) : Nat) : Int)] V (LEnd pb A c T fin V q2)) := fun V hV => HIT.out m (by omega) sShut (deep + 1) _ V q2 (by omega) hq2 hV
      have HM : Hid (s'.i < q2.2.i ∧ q2.1.length ≤ q2.2.i + 1) := by
        obtain ⟨h1, h2⟩ := (lang_mono T fin m).maybe_ _ _ _ _ hq2
        have h3 := h1.i
        simp only [nextP] at h3 h2
        exact ⟨h3, by omega⟩
      have HL2 := Lib.hid hl2
      have HT2 : Hid (∀ V, PAt pb A c T fin s' V → Calls Try.prog 21 #[.pointer (some ⟨pb, 0, none⟩), .string ⟨#[40]⟩] V fun r w' => r = .returned (.bool true) ∧ PAt pb A c T fin (nextP s') w' ∧ PFr pb V w') := fun V hV => by
        have := HTK.out V s' hV
        rw [hb, if_pos rfl] at this
        exact this
      clear hl' hb hl hpl hq2 hl2 hI
      go_upto_region 7 with (first
        | (go_at_call 20; refine HP2.out.mono ?_; rintro e V3 ⟨rfl, hb3⟩)
        | (go_at_call 21; refine (HT2.out _ (HI.out.p.keep hb3)).mono ?_; rintro e V4 ⟨rfl, hp4, hf4⟩; have hI4 := (HI.out.keep hb3).act hp4 hf4)
        | (go_at_call 64; refine (HS2.out _ hI4.p).mono ?_; rintro e V5 ⟨B, d, rfl, hrd, hp5, hf5⟩))
      refine wp_world (fun V => BinI pb A c T fin W g y q2.2 V ∧ RdN (fun k => k ≤ W.heap.size ∨ k = g) V B d q2.1) ⟨hI4.act hp5 hf5, hI4.off hrd⟩ ?_
      clear hp4 hf4 hb3 HP2 HT2 hI4 hp5 hf5 hrd HS2
      rintro V6 ⟨hI6, hrd6⟩
      cases b with
      | true =>
        have HL3 := Lib.hid (show (lang T fin m).callL deep false (.mk 7 0 y.t.name y.t.at_ q2.1 [] []) q2.2 = some r from HL2.out)
        obtain ⟨a0, a1, a2, a3, a4, a5, a6, f0, f1, f2, f3, f4, f5, f6⟩ := nbx_facts hI6.a
        go_wp2
        have hJ := hI6.put (y := ⟨.mk 7 0 y.t.name y.t.at_ q2.1 [] [], B, d, none, 0, none, 0⟩) ⟨hrd6, RdC.nil_ _ _ _ (Nat.zero_le _), RdN.nil_ _ _ _ (Nat.zero_le _)⟩ (put7_fr V6 g (.int .i64 7) (.int .i64 0) (.string ⟨y.t.name.toArray⟩) (.int .i64 y.t.at_) (.slice B q2.1.length d) (.slice none 0 0) (.slice none 0 0)) (put7_blk hI6.a _ _ _ _ _ _ _)
        go_roundw
        case rel => exact ⟨m, _, q2.2, false, by omega, rfl, HL3.out, hJ⟩
        case measure =>
          refine Nat.lt_of_le_of_lt (Nat.le_of_eq (congrArg (T.length - ·) (posOf_eq hJ.p))) ?_
          rw [posOf_eq HI.out.p]
          have h1 := hI6.p.hi
          have h2 := HM.out.1
          omega
      | false =>
        have HL3 := Lib.hid (show (lang T fin m).callL deep false (.mk 8 0 [] pl (y.t :: q2.1) [] []) q2.2 = some r from HL2.out)
        obtain ⟨a0, a1, a2, a3, a4, a5, a6⟩ := hI6.a.cells
        obtain ⟨xs, hxs, hxo, hxc⟩ := hrd6.rows
        have hxl : q2.1.length = xs.length := by rw [← hxs, List.length_map]
        have hk6 : q2.1.length ≤ 16385 := by have := HM.out.2; have := hI6.p.hi; omega
        obtain ⟨k, hk⟩ : ∃ k, q2.1.length = k := ⟨_, rfl⟩
        rw [hk] at hxl hk6 ⊢
        have HXS := Lib.hid hxs
        have HXL := Lib.hid hxl
        have HXO := Lib.hid hxo
        have HI6 := Lib.hid hI6
        have HOW := Lib.hid (own_blk (base := W.heap.size + 1) (size := 7) (n := 1) (Blk.new V6 26 (enL [y]).toArray) hI6.res.lt (by unfold maxLen; omega) rfl)
        have HCS := Lib.hid (hxc.below (below_alloc V6 (.cells (enL [y]).toArray 26)))
        have hsz6 : W.heap.size + 1 ≤ V6.heap.size := hI6.res.lt
        clear hxs hxl hxo hxc hI6 hrd6 hk
        go_wp2_with (at_builtin; refine wpList_app nodeT rfl (.tmp 33) (.tmp 34) rfl (W.heap.size + 1) (.slice (some ⟨V6.heap.size, 0, none⟩) 1 1) 1 (enL [y]) rfl HOW.out B k d (enL xs) rfl (by rw [HXL.out]; exact flat_len EN.cells_len xs) HCS.out (flat_one' EN.cells_one xs) (by unfold maxLen; omega) (by omega) (Nat.le_trans hsz6 (below_alloc _ _).size) ?_; intro v' w' ho hg hat; obtain ⟨hI7, B7, d7, rfl, hrd7⟩ := HI6.out.row HXO.out rfl HXL.out ho hg hat; obtain ⟨a0, a1, a2, a3, a4, a5, a6, f0, f1, f2, f3, f4, f5, f6⟩ := nbx_facts hI7.a)
        rw [HXS.out] at hrd7
        have hJ := hI7.put (y := ⟨.mk 8 0 [] pl (y.t :: q2.1) [] [], B7, d7, none, 0, none, 0⟩) ⟨hrd7, RdC.nil_ _ _ _ (Nat.zero_le _), RdN.nil_ _ _ _ (Nat.zero_le _)⟩ (put7_fr w' g (.int .i64 8) (.int .i64 0) (.string ⟨#[]⟩) (.int .i64 pl) (.slice B7 (k + 1) d7) (.slice none 0 0) (.slice none 0 0)) (by
          have h9 : q2.1.length = k := by rw [HXL.out, ← HXS.out, List.length_map]
          have := put7_blk hI7.a (.int .i64 8) (.int .i64 0) (.string ⟨#[]⟩) (.int .i64 pl) (.slice B7 (k + 1) d7) (.slice none 0 0) (.slice none 0 0)
          rw [← h9] at this ⊢
          exact this)
        go_roundw
        case rel => exact ⟨m, _, q2.2, false, by omega, rfl, HL3.out, hJ⟩
        case measure =>
          refine Nat.lt_of_le_of_lt (Nat.le_of_eq (congrArg (T.length - ·) (posOf_eq hJ.p))) ?_
          rw [posOf_eq HI.out.p]
          have h1 := hI7.p.hi
          have h2 := HM.out.1
          omega

end
end
end Go.Proofs.Ythhindnjnijglaa
