/- Layer 13: the walk of the law's live. Written by magenm.py. -/
import Derived.Test.YtmpknhdfglbocaaGreatMaJ
import Derived.Test.YtmpknhdfglbocaaGreatMaK
import Derived.Test.YtmpknhdfglbocaaGreatScI
import Derived.Test.YtmpknhdfglbocaaGreatPaU
import Derived.Test.YtmpknhdfglbocaaGreatTLst
namespace Go.Proofs.YtmpknhdfglbocaaGreat
open Go.RowKit
set_option linter.unusedVariables false

def liveS1 : List UInt8 := [123, 88, 44, 32, 91, 89, 124, 95, 93, 44, 32, 88, 125]
def liveS2 : List UInt8 := [123, 88, 44, 32, 88, 125]
def liveP1 : ND := .mk 4 0 [] 0 [.mk 3 0 [88] 1 [] [] [], .mk 6 0 [] 4 [.mk 3 0 [89] 5 [] [] [], .mk 3 0 [95] 7 [] [] []] [] [], .mk 3 0 [88] 11 [] [] []] [] []
def liveP2 : ND := .mk 4 0 [] 0 [.mk 3 0 [88] 1 [] [] [], .mk 3 0 [88] 4 [] [] []] [] []
def ti (n : Int) : TV := .mk 1 n [] []
def liveT1 : TV := .mk 6 0 [] [ti 1, lstT [ti 2, ti 3], ti 1]
def liveT2 : TV := .mk 6 0 [] [ti 1, ti 2]
def liveR : List BV := [([88], ti 1), ([89], ti 2)]
set_option maxRecDepth 100000 in
theorem live_p1 : exprP liveS1 = some (liveP1, 0, 0) := by rfl
set_option maxRecDepth 100000 in
theorem live_p2 : exprP liveS2 = some (liveP2, 0, 0) := by rfl
set_option maxRecDepth 100000 in
theorem live_m1 : allP [liveP1] [liveT1] [] = some liveR := by rfl
set_option maxRecDepth 100000 in
theorem live_m2 : allP [liveP2] [liveT2] [] = none := by rfl
theorem live_g : getG [89] liveR = some (ti 2) := by rfl
theorem live_t1 : liveT1.isT = true := by rfl
theorem live_t2 : liveT2.isT = true := by rfl
theorem live_n1 : liveP1.all (fun s => s ∈ [[], [88], [89], [95]]) := by simp [liveP1, ND.all, ND.allL, CD.allL]
theorem live_n2 : liveP2.all (fun s => s ∈ [[], [88], [89], [95]]) := by simp [liveP2, ND.all, ND.allL, CD.allL]
theorem live_k1 : ∀ s ∈ ([[], [88], [89], [95]] : List (List UInt8)), s.length ≤ 1000000 := by simp
theorem live_k2 : ([[], [88], [89], [95]] : List (List UInt8)).length ≤ 1000000 := by simp
/-- Expr at a text that it takes. -/
theorem expr_at {s : List UInt8} {p : ND} (h : exprP s = some (p, 0, 0)) (W : World) : Calls Tryz.prog 7 #[.string ⟨s.toArray⟩] W fun e w' => ∃ x : EN, Hid (x.t = p) ∧ e = .returned (.tuple #[.agg #[.int .i64 x.t.kind, .int .i64 x.t.int, .string ⟨x.t.name.toArray⟩, .int .i64 x.t.at_, .slice x.A x.t.kids.length x.c, .slice x.B x.t.clauses.length x.d, .slice x.C x.t.body.length x.e], .int .i64 0, .int .i64 0]) ∧ Hid (x.Ok NoB w') ∧ Below W.heap.size W w' :=
  (expr_any W s _ h).mono fun e w' ⟨x, h1, h2, h3, h4⟩ => ⟨x, h1, h2, h3.move (.sub_ fun _ _ h => h.elim), h4⟩
theorem ttuple_any (W : World) (A : Option Addr) (n c : Nat) : Calls Tryz.prog 20 #[.slice A n c] W fun e w' => e = .returned (.agg #[.int .i64 6, .int .i64 0, .string ⟨#[]⟩, .slice A n c]) ∧ Below W.heap.size W w' := by
  go_enter Tryz.func20, Tryz.ntmps20
  go_wp2
  exact bodyPost_ret (v := .agg #[.int .i64 6, .int .i64 0, .string ⟨#[]⟩, .slice A n c]) (by simp [results, Tryz.results20, go_sem]) rfl ⟨rfl, below_alloc _ _⟩
theorem tint_t (n : Int) (W : World) : Calls Tryz.prog 21 #[.int .i64 n] W fun e w' => e = .returned (.agg #[.int .i64 1, .int .i64 n, .string ⟨#[]⟩, .slice none 0 0]) ∧ Below W.heap.size W w' := tint_any n W
/-- Two numbers in a new block. -/
theorem rdm_ints {V : World} {g : Nat} (a b : Int) (h : Blk V g 35 #[.int .i64 1, .int .i64 a, .string ⟨#[]⟩, .slice none 0 0, .int .i64 1, .int .i64 b, .string ⟨#[]⟩, .slice none 0 0]) : RdM V (some ⟨g, 0, none⟩) 2 [ti a, ti b] := by
  refine ⟨Nat.le_refl _, by omega, .inr ⟨g, 0, rfl, ?_⟩⟩
  simp only [TV.Row, and_true]
  exact ⟨(TV.at_iff _ _ _).2 ⟨h.cell 0, h.cell 1, h.cell 2, none, 0, h.cell 3, rdm_nil V⟩, (TV.at_iff _ _ _).2 ⟨h.cell 4, h.cell 5, h.cell 6, none, 0, h.cell 7, rdm_nil V⟩⟩
/-- A number, a term, a number. -/
theorem rdm_three {V V0 : World} {g : Nat} (a b : Int) (t : TV) (A : Option Addr) (n c : Nat) (hn : t.items.length = n) (hR : RdM V0 A c t.items) (hb : Below V0.heap.size V0 V) (h : Blk V g 35 #[.int .i64 1, .int .i64 a, .string ⟨#[]⟩, .slice none 0 0, .int .i64 t.kind, .int .i64 t.int, .string ⟨t.name.toArray⟩, .slice A n c, .int .i64 1, .int .i64 b, .string ⟨#[]⟩, .slice none 0 0]) : RdM V (some ⟨g, 0, none⟩) 3 [ti a, t, ti b] := by
  subst hn
  refine ⟨Nat.le_refl _, by omega, .inr ⟨g, 0, rfl, ?_⟩⟩
  simp only [TV.Row, and_true]
  exact ⟨(TV.at_iff _ _ _).2 ⟨h.cell 0, h.cell 1, h.cell 2, none, 0, h.cell 3, rdm_nil V⟩, (TV.at_iff _ _ _).2 ⟨h.cell 4, h.cell 5, h.cell 6, A, c, h.cell 7, hR.below hb⟩, (TV.at_iff _ _ _).2 ⟨h.cell 8, h.cell 9, h.cell 10, none, 0, h.cell 11, rdm_nil V⟩⟩
/-- What live has made, up to the terms. -/
structure LV1 (w : World) (b1 b4 : Nat) (x y : EN) (V : World) : Prop where
  bx : Blk V b1 29 #[.int .i64 x.t.kind, .int .i64 x.t.int, .string ⟨x.t.name.toArray⟩, .int .i64 x.t.at_, .slice x.A x.t.kids.length x.c, .slice x.B x.t.clauses.length x.d, .slice x.C x.t.body.length x.e]
  by_ : Blk V b4 29 #[.int .i64 y.t.kind, .int .i64 y.t.int, .string ⟨y.t.name.toArray⟩, .int .i64 y.t.at_, .slice y.A y.t.kids.length y.c, .slice y.B y.t.clauses.length y.d, .slice y.C y.t.body.length y.e]
  ox : x.Ok NoB V
  oy : y.Ok NoB V
  bel : Below w.heap.size w V
theorem LV1.keep {w V V' : World} {b1 b4 : Nat} {x y : EN} (h : LV1 w b1 b4 x y V) (hb : Below V.heap.size V V') : LV1 w b1 b4 x y V' := ⟨h.bx.keep hb, h.by_.keep hb, h.ox.below hb, h.oy.below hb, below_step h.bel hb⟩

/-- .. and the term. -/
structure LV2 (w : World) (b1 b4 b7 g3 : Nat) (x y : EN) (V : World) : Prop where
  l : LV1 w b1 b4 x y V
  bt : Blk V b7 35 #[.int .i64 6, .int .i64 0, .string ⟨#[]⟩, .slice (some ⟨g3, 0, none⟩) 3 3]
  rt : RdM V (some ⟨g3, 0, none⟩) 3 [ti 1, lstT [ti 2, ti 3], ti 1]
theorem LV2.keep {w V V' : World} {b1 b4 b7 g3 : Nat} {x y : EN} (h : LV2 w b1 b4 b7 g3 x y V) (hb : Below V.heap.size V V') : LV2 w b1 b4 b7 g3 x y V' := ⟨h.l.keep hb, h.bt.keep hb, h.rt.below hb⟩

set_option maxRecDepth 100000 in
set_option maxHeartbeats 8000000 in
theorem live_any (w : World) : Calls Tryz.prog 6 #[] w fun e w' => e = .returned (.bool true) ∧ Below w.heap.size w w' := by
  have HE1 := Lib.hid (fun V => expr_at live_p1 V)
  have HE2 := Lib.hid (fun V => expr_at live_p2 V)
  unfold liveS1 at HE1
  unfold liveS2 at HE2
  have HLI : Hid (∀ V g, Blk V g 35 #[.int .i64 1, .int .i64 2, .string ⟨#[]⟩, .slice none 0 0, .int .i64 1, .int .i64 3, .string ⟨#[]⟩, .slice none 0 0] → Calls Tryz.prog 22 #[.slice (some ⟨g, 0, none⟩) 2 2] V fun e w' => ∃ A9 c9, e = .returned (.agg #[.int .i64 8, .int .i64 0, .string ⟨#[]⟩, .slice A9 2 c9]) ∧ RdM w' A9 c9 (lstT [ti 2, ti 3]).items ∧ Below V.heap.size V w') := fun V g hB =>
    (tlist_v (w := V) (l := [ti 2, ti 3]) ⟨_, _, _, rfl, rfl, rdm_ints 2 3 hB⟩ (by simp)).mono fun e w' ⟨A9, n9, c9, he, hT, hb⟩ => by
      obtain ⟨A', n', c', h1, h2, h3⟩ := hT
      simp only [Value.agg.injEq, Array.mk.injEq, List.cons.injEq, Value.slice.injEq, true_and, and_true] at h1
      obtain ⟨rfl, rfl, rfl⟩ := h1
      have h4 : n9 = 2 := h2.symm
      subst h4
      exact ⟨A9, c9, he, h3, hb⟩
  go_enter Tryz.func6, Tryz.ntmps6
  go_upto_region 2 with (go_at_call 7; refine (HE1.out _).mono ?_; rintro e V1 ⟨x, hx, rfl, hok, hb1⟩)
  obtain ⟨b1, hg1⟩ : ∃ b1, V1.heap.size = b1 := ⟨_, rfl⟩
  have H1 : Hid (Blk (V1.alloc (.cells #[.int .i64 x.t.kind, .int .i64 x.t.int, .string ⟨x.t.name.toArray⟩, .int .i64 x.t.at_, .slice x.A x.t.kids.length x.c, .slice x.B x.t.clauses.length x.d, .slice x.C x.t.body.length x.e] 29)) b1 29 #[.int .i64 x.t.kind, .int .i64 x.t.int, .string ⟨x.t.name.toArray⟩, .int .i64 x.t.at_, .slice x.A x.t.kids.length x.c, .slice x.B x.t.clauses.length x.d, .slice x.C x.t.body.length x.e] ∧ x.Ok NoB (V1.alloc (.cells #[.int .i64 x.t.kind, .int .i64 x.t.int, .string ⟨x.t.name.toArray⟩, .int .i64 x.t.at_, .slice x.A x.t.kids.length x.c, .slice x.B x.t.clauses.length x.d, .slice x.C x.t.body.length x.e] 29)) ∧ Below w.heap.size w (V1.alloc (.cells #[.int .i64 x.t.kind, .int .i64 x.t.int, .string ⟨x.t.name.toArray⟩, .int .i64 x.t.at_, .slice x.A x.t.kids.length x.c, .slice x.B x.t.clauses.length x.d, .slice x.C x.t.body.length x.e] 29))) := by
    rw [← hg1]
    exact ⟨Blk.new _ _ _, hok.out.below (below_alloc _ _), below_step hb1 (below_alloc _ _)⟩
  rw [hg1]
  refine wp_world (fun V => Blk V b1 29 #[.int .i64 x.t.kind, .int .i64 x.t.int, .string ⟨x.t.name.toArray⟩, .int .i64 x.t.at_, .slice x.A x.t.kids.length x.c, .slice x.B x.t.clauses.length x.d, .slice x.C x.t.body.length x.e] ∧ x.Ok NoB V ∧ Below w.heap.size w V) H1.out ?_
  clear H1 hg1 hok hb1 HE1
  rintro V2 ⟨hB1, hok, hbl⟩
  have HB1 := Lib.hid hB1
  have HO1 := Lib.hid hok
  have HBL := Lib.hid hbl
  clear hB1 hok hbl
  go_upto_region 3 with (go_at_call 7; refine (HE2.out _).mono ?_; rintro e V3 ⟨y, hy, rfl, hok, hb1⟩)
  obtain ⟨b4, hg1⟩ : ∃ b4, V3.heap.size = b4 := ⟨_, rfl⟩
  have H1 : Hid (LV1 w b1 b4 x y (V3.alloc (.cells #[.int .i64 y.t.kind, .int .i64 y.t.int, .string ⟨y.t.name.toArray⟩, .int .i64 y.t.at_, .slice y.A y.t.kids.length y.c, .slice y.B y.t.clauses.length y.d, .slice y.C y.t.body.length y.e] 29))) := by
    rw [← hg1]
    exact ⟨(HB1.out.keep hb1).alloc _, Blk.new _ _ _, (HO1.out.below hb1).below (below_alloc _ _), hok.out.below (below_alloc _ _), below_step (below_step HBL.out hb1) (below_alloc _ _)⟩
  rw [hg1]
  refine wp_world (fun V => LV1 w b1 b4 x y V) H1.out ?_
  clear H1 hg1 hok hb1 HE2 HB1 HO1 HBL
  intro V4 hL
  have HL := Lib.hid hL
  clear hL
  go_upto_region 4 with (first
    | (go_at_call 21; refine (tint_t _ _).mono ?_; rintro e w9 ⟨rfl, hb9⟩; have HL := Lib.hid (HL.out.keep hb9); try (have HRL := Lib.hid (HRL.out.below hb9)); clear hb9)
    | (go_at_call 22; refine (HLI.out _ _ (Blk.new _ _ _)).mono ?_; rintro e w9 ⟨A9, c9, rfl, hR9, hb9⟩; have HL := Lib.hid (HL.out.keep (below_step (below_alloc _ _) hb9)); have HRL := Lib.hid hR9; clear hR9 hb9)
    | (obtain ⟨g3, hg3⟩ : ∃ g3, w9.heap.size = g3 := ⟨_, rfl⟩; rw [hg3]; go_at_call 20; refine (ttuple_any _ _ _ _).mono ?_; rintro e w9 ⟨rfl, hb9⟩; have HL := Lib.hid (HL.out.keep (below_step (below_alloc _ _) hb9)); have HRT := Lib.hid ((rdm_three (g := g3) 1 1 (lstT [ti 2, ti 3]) _ 2 _ rfl HRL.out (below_alloc _ _) (by rw [← hg3]; exact Blk.new _ _ _)).below hb9); clear hb9))
  obtain ⟨b7, hg7⟩ : ∃ b7, w9.heap.size = b7 := ⟨_, rfl⟩
  have H1 : Hid (LV2 w b1 b4 b7 g3 x y (w9.alloc (.cells #[.int .i64 6, .int .i64 0, .string ⟨#[]⟩, .slice (some ⟨g3, 0, none⟩) 3 3] 35))) := by
    rw [← hg7]
    exact ⟨HL.out.keep (below_alloc _ _), Blk.new _ _ _, HRT.out.below (below_alloc _ _)⟩
  rw [hg7]
  refine wp_world (fun V => LV2 w b1 b4 b7 g3 x y V) H1.out ?_
  clear H1 hg7 HLI HRT HRL HL
  intro V5 hL
  have HL := Lib.hid hL
  have x0 := hL.l.bx.cell 0
  have x1 := hL.l.bx.cell 1
  have x2 := hL.l.bx.cell 2
  have x3 := hL.l.bx.cell 3
  have x4 := hL.l.bx.cell 4
  have x5 := hL.l.bx.cell 5
  have x6 := hL.l.bx.cell 6
  have y0 := hL.bt.cell 0
  have y1 := hL.bt.cell 1
  have y2 := hL.bt.cell 2
  have y3 := hL.bt.cell 3
  have HM1 : Hid (Calls Tryz.prog 8 #[.agg #[.int .i64 x.t.kind, .int .i64 x.t.int, .string ⟨x.t.name.toArray⟩, .int .i64 x.t.at_, .slice x.A x.t.kids.length x.c, .slice x.B x.t.clauses.length x.d, .slice x.C x.t.body.length x.e], .agg #[.int .i64 6, .int .i64 0, .string ⟨#[]⟩, .slice (some ⟨g3, 0, none⟩) 3 3], .slice none 0 0] V5 fun e w' => ∃ A8 c8, ∃ E8 : List (BG (TE w')), e = .returned (.tuple #[.slice A8 2 c8, .bool true]) ∧ vE E8 = liveR ∧ RdB w' A8 c8 E8 ∧ Below V5.heap.size V5 w') := by
    have := pmatch_any V5 x ⟨liveT1, some ⟨g3, 0, none⟩, 3, hL.rt⟩ [] none 0 hL.l.ox (RdB.nil_ (Nat.zero_le _)) (by rw [hx.out]; exact live_n1) live_t1 (by simp) live_k1 live_k2
    rw [hx.out, show vE ([] : List (BG (TE V5))) = [] from rfl, live_m1] at this
    rw [← hx.out] at this
    refine this.mono fun e w' ⟨A8, c8, E8, h1, h2, h3, h4⟩ => ⟨A8, c8, E8, ?_, h2, h3, h4⟩
    have : E8.length = 2 := by rw [← vE_len, h2]; rfl
    rw [h1, this]
    rfl
  clear hL
  go_upto_region 5 with (go_at_call 8; refine HM1.out.mono ?_; rintro e V6 ⟨A8, c8, E8, rfl, h8, hR8, hb6⟩)
  have HBW := Lib.hid HL.out.l.bel
  have HBW2 := Lib.hid hb6
  have HL := Lib.hid (HL.out.keep hb6)
  have HE8 := Lib.hid h8
  have HR8 := Lib.hid hR8
  clear HM1 h8 hR8 hb6 x0 x1 x2 x3 x4 x5 x6 y0 y1 y2 y3
  have HS : Hid (∀ V', Below V6.heap.size V6 V' → (V'.cell? ⟨b4, 0, none⟩ = some (.int .i64 y.t.kind) ∧ V'.cell? ⟨b4, 1, none⟩ = some (.int .i64 y.t.int) ∧ V'.cell? ⟨b4, 2, none⟩ = some (.string ⟨y.t.name.toArray⟩) ∧ V'.cell? ⟨b4, 3, none⟩ = some (.int .i64 y.t.at_) ∧ V'.cell? ⟨b4, 4, none⟩ = some (.slice y.A y.t.kids.length y.c) ∧ V'.cell? ⟨b4, 5, none⟩ = some (.slice y.B y.t.clauses.length y.d) ∧ V'.cell? ⟨b4, 6, none⟩ = some (.slice y.C y.t.body.length y.e)) ∧ Below V6.heap.size V6 V') := fun V' hb => by
    have h := (HL.out.keep hb).l.by_
    exact ⟨⟨h.cell 0, h.cell 1, h.cell 2, h.cell 3, h.cell 4, h.cell 5, h.cell 6⟩, hb⟩
  have HTN : Hid (∀ n V', Below V6.heap.size V6 V' → Calls Tryz.prog 21 #[.int .i64 n] V' fun e w' => e = .returned (.agg #[.int .i64 1, .int .i64 n, .string ⟨#[]⟩, .slice none 0 0]) ∧ Below V6.heap.size V6 w') := fun n V' hb => (tint_t n V').mono fun e w' ⟨h1, h2⟩ => ⟨h1, below_step hb h2⟩
  have HTU : Hid (∀ g V', Below V6.heap.size V6 V' → RdM V' (some ⟨g, 0, none⟩) 2 [ti 1, ti 2] → Calls Tryz.prog 20 #[.slice (some ⟨g, 0, none⟩) 2 2] V' fun e w' => e = .returned (.agg #[.int .i64 6, .int .i64 0, .string ⟨#[]⟩, .slice (some ⟨g, 0, none⟩) 2 2]) ∧ Below V6.heap.size V6 w' ∧ RdM w' (some ⟨g, 0, none⟩) 2 [ti 1, ti 2]) := fun g V' hb hR => (ttuple_any V' _ _ _).mono fun e w' ⟨h1, h2⟩ => ⟨h1, below_step hb h2, hR.below h2⟩
  have HM2 : Hid (∀ g V', Below V6.heap.size V6 V' → RdM V' (some ⟨g, 0, none⟩) 2 [ti 1, ti 2] → Calls Tryz.prog 8 #[.agg #[.int .i64 y.t.kind, .int .i64 y.t.int, .string ⟨y.t.name.toArray⟩, .int .i64 y.t.at_, .slice y.A y.t.kids.length y.c, .slice y.B y.t.clauses.length y.d, .slice y.C y.t.body.length y.e], .agg #[.int .i64 6, .int .i64 0, .string ⟨#[]⟩, .slice (some ⟨g, 0, none⟩) 2 2], .slice none 0 0] V' fun e w' => ∃ A9 n9 c9, e = .returned (.tuple #[.slice A9 n9 c9, .bool false]) ∧ Below V6.heap.size V6 w') := fun g V' hb hR => by
    have := pmatch_any V' y ⟨liveT2, some ⟨g, 0, none⟩, 2, hR⟩ [] none 0 (HL.out.l.oy.below hb) (RdB.nil_ (Nat.zero_le _)) (by rw [hy.out]; exact live_n2) live_t2 (by simp) live_k1 live_k2
    rw [hy.out, show vE ([] : List (BG (TE V'))) = [] from rfl, live_m2] at this
    rw [← hy.out] at this
    exact this.mono fun e w' ⟨A8, c8, E8, h1, h2, h3, h4⟩ => ⟨A8, _, c8, h1, below_step hb h4⟩
  go_region_held3 (fun V' => (V'.cell? ⟨b4, 0, none⟩ = some (.int .i64 y.t.kind) ∧ V'.cell? ⟨b4, 1, none⟩ = some (.int .i64 y.t.int) ∧ V'.cell? ⟨b4, 2, none⟩ = some (.string ⟨y.t.name.toArray⟩) ∧ V'.cell? ⟨b4, 3, none⟩ = some (.int .i64 y.t.at_) ∧ V'.cell? ⟨b4, 4, none⟩ = some (.slice y.A y.t.kids.length y.c) ∧ V'.cell? ⟨b4, 5, none⟩ = some (.slice y.B y.t.clauses.length y.d) ∧ V'.cell? ⟨b4, 6, none⟩ = some (.slice y.C y.t.body.length y.e)) ∧ Below V6.heap.size V6 V') (first | exact HS.out _ hb9 | exact HS.out _ (Below.refl _ _).drew | exact HS.out _ (Below.refl _ _) | exact HS.out _ (below_step (And.right (by assumption)) (below_alloc _ _))) ((first
    | (go_at_call 21; refine (HTN.out _ _ (And.right (by assumption))).mono ?_; rintro e w' ⟨rfl, hb9⟩)
    | (go_at_call 20; refine (HTU.out _ _ (And.right (by assumption)) (rdm_ints 1 2 (Blk.new _ _ _))).mono ?_; rintro e w' ⟨rfl, hb9, hR9⟩)
    | (go_at_call 8; refine (HM2.out _ _ (And.right (by assumption)) (by first | exact hR9 | assumption)).mono ?_; rintro e w' ⟨A9, n9, c9, rfl, hb9⟩)))
  go_upto_region 6 with (fail)
  have HG : Hid (∀ V', Below V6.heap.size V6 V' → Calls Tryz.prog 12 #[.string ⟨#[89]⟩, .slice A8 2 c8] V' fun e w' => ∃ Au cu, e = .returned (.tuple #[.agg #[.int .i64 1, .int .i64 2, .string ⟨#[]⟩, .slice Au 0 cu], .bool true]) ∧ cu ≤ 9223372036854775807 ∧ Below V6.heap.size V6 w') := fun V' hb => by
    have hl : (upE hb E8).length = 2 := by rw [upE_len, ← vE_len, HE8.out]; rfl
    have := pget_any V' [89] (upE hb E8) A8 c8 ((HR8.out.below hb).up hb) (by omega)
    rw [hl, vE_up, HE8.out, live_g] at this
    refine this.mono fun e w' ⟨u, h1, h2, h3⟩ => ⟨u.A, u.c, ?_, u.ok.2.1, below_step hb h3⟩
    rw [h2, h1]
    rfl
  clear HM2 HTU HTN HS HL
  go_upto_region 7 with (go_at_call 12; refine (HG.out _ hb9).mono ?_; rintro e V8 ⟨Au, cu, rfl, hcu, hb8⟩)
  obtain ⟨b12, hg12⟩ : ∃ b12, V8.heap.size = b12 := ⟨_, rfl⟩
  have H1 : Hid (Below V6.heap.size V6 (V8.alloc (.cells #[.int .i64 1, .int .i64 2, .string ⟨#[]⟩, .slice Au 0 cu] 35)) ∧ Blk (V8.alloc (.cells #[.int .i64 1, .int .i64 2, .string ⟨#[]⟩, .slice Au 0 cu] 35)) b12 35 #[.int .i64 1, .int .i64 2, .string ⟨#[]⟩, .slice Au 0 cu]) := by
    rw [← hg12]
    exact ⟨below_step hb8 (below_alloc _ _), Blk.new _ _ _⟩
  rw [hg12]
  refine wp_world (fun V => Below V6.heap.size V6 V ∧ Blk V b12 35 #[.int .i64 1, .int .i64 2, .string ⟨#[]⟩, .slice Au 0 cu]) H1.out ?_
  clear H1 hg12 HG hb8 hb9
  rintro V9 ⟨hb, hB⟩
  have HB9 := Lib.hid hb
  have HS : Hid (∀ V', Below V9.heap.size V9 V' → (V'.cell? ⟨b12, 0, none⟩ = some (.int .i64 1) ∧ V'.cell? ⟨b12, 1, none⟩ = some (.int .i64 2) ∧ V'.cell? ⟨b12, 2, none⟩ = some (.string ⟨#[]⟩) ∧ V'.cell? ⟨b12, 3, none⟩ = some (.slice Au 0 cu)) ∧ Below V9.heap.size V9 V') := fun V' hb => ⟨⟨(hB.keep hb).cell 0, (hB.keep hb).cell 1, (hB.keep hb).cell 2, (hB.keep hb).cell 3⟩, hb⟩
  have HTN : Hid (∀ n V', Below V9.heap.size V9 V' → Calls Tryz.prog 21 #[.int .i64 n] V' fun e w' => e = .returned (.agg #[.int .i64 1, .int .i64 n, .string ⟨#[]⟩, .slice none 0 0]) ∧ Below V9.heap.size V9 w') := fun n V' hb => (tint_t n V').mono fun e w' ⟨h1, h2⟩ => ⟨h1, below_step hb h2⟩
  have HSM : Hid (∀ V', Below V9.heap.size V9 V' → Calls Tryz.prog 15 #[.agg #[.int .i64 1, .int .i64 2, .string ⟨#[]⟩, .slice Au 0 cu], .agg #[.int .i64 1, .int .i64 2, .string ⟨#[]⟩, .slice none 0 0]] V' fun e w' => e = .returned (.bool true) ∧ Below V9.heap.size V9 w') := fun V' hb => by
    have := tsame_any (ti 2) (ti 2) Au cu none 0 V' V' (Below.refl _ _) ⟨Nat.zero_le _, hcu, .inl rfl⟩ (rdm_nil V')
    exact this.mono fun e w' ⟨h1, h2⟩ => ⟨by rw [h1, cmp_self], below_step hb h2⟩
  have HRS : Hid (∀ g V', Below V9.heap.size V9 V' → Blk V' g 52 #[.string ⟨#[88]⟩, .int .i64 1, .int .i64 1, .string ⟨#[]⟩, .slice none 0 0, .string ⟨#[89]⟩, .int .i64 1, .int .i64 2, .string ⟨#[]⟩, .slice none 0 0] → Calls Tryz.prog 14 #[.slice A8 2 c8, .slice (some ⟨g, 0, none⟩) 2 2] V' fun e w' => e = .returned (.bool true) ∧ Below V9.heap.size V9 w') := fun g V' hb hB => by
    have hbb := below_step HB9.out hb
    have hl : (upE hbb E8).length = 2 := by rw [upE_len, ← vE_len, HE8.out]; rfl
    have hF : RdB V' (some ⟨g, 0, none⟩) 2 ([([88], ⟨ti 1, none, 0, rdm_nil V'⟩), ([89], ⟨ti 2, none, 0, rdm_nil V'⟩)] : List (BG (TE V'))) := ⟨Nat.le_refl _, by omega, .inr ⟨g, 0, rfl, fun j u hu => by rw [Nat.zero_add, hB.cell j]; exact (List.getElem?_toArray ..).trans hu⟩⟩
    have := rsame_any V' V' (upE hbb E8) _ A8 (some ⟨g, 0, none⟩) c8 2 (Below.refl _ _) ((HR8.out.below hbb).up hbb) hF
    rw [hl, vE_up, HE8.out, show vE ([([88], ⟨ti 1, none, 0, rdm_nil V'⟩), ([89], ⟨ti 2, none, 0, rdm_nil V'⟩)] : List (BG (TE V'))) = liveR from rfl, sameB_self] at this
    exact this.mono fun e w' ⟨h1, h2⟩ => ⟨h1, below_step hb h2⟩
  have HBL := Lib.hid (below_step (below_step HBW.out HBW2.out) hb)
  clear hb hB HR8 HE8
  go_region_held3 (fun V' => (V'.cell? ⟨b12, 0, none⟩ = some (.int .i64 1) ∧ V'.cell? ⟨b12, 1, none⟩ = some (.int .i64 2) ∧ V'.cell? ⟨b12, 2, none⟩ = some (.string ⟨#[]⟩) ∧ V'.cell? ⟨b12, 3, none⟩ = some (.slice Au 0 cu)) ∧ Below V9.heap.size V9 V') (first | exact HS.out _ hb9 | exact HS.out _ (Below.refl _ _).drew | exact HS.out _ (Below.refl _ _) | exact HS.out _ (below_step (And.right (by assumption)) (below_alloc _ _))) ((first
    | (go_at_call 21; refine (HTN.out _ _ (And.right (by assumption))).mono ?_; rintro e w' ⟨rfl, hb9⟩)
    | (go_at_call 15; refine (HSM.out _ (And.right (by assumption))).mono ?_; rintro e w' ⟨rfl, hb9⟩)
    | (go_at_call 14; refine (HRS.out _ _ (And.right (by assumption)) (Blk.new _ _ _)).mono ?_; rintro e w' ⟨rfl, hb9⟩)))
  all_goals
    go_wp2
    go_ret
    exact ⟨rfl, below_step HBL.out hb9⟩
end Go.Proofs.YtmpknhdfglbocaaGreat
