/- Layer 11: the walk of expr. Layer 11: rows of nodes and clauses of the call's own; the walks of list, maybe, sign. -/
import Derived.Test.YthhindnjnijglaaPaG
namespace Go.Proofs.Ythhindnjnijglaa
section
open Go.RowKit
set_option linter.unusedVariables false
section
variable {pb : Nat} {A : Option Addr} {c : Nat} {T : List Tok} {fin : Nat} {W : World}

set_option maxRecDepth 100000 in
set_option maxHeartbeats 8000000 in
theorem expr_step {n : Nat} (H1 : NodeOk pb A c T fin 19 Lang.or_ n) (H : NodeOk pb A c T fin 10 Lang.expr n) : NodeOk pb A c T fin 10 Lang.expr (n + 1) := by
  intro deep s W r hdp hr hp
  have hr' : exprN T fin (lang T fin n) deep s = some r := hr
  unfold exprN at hr'
  obtain ⟨q, hq, hl⟩ := bind_inv hr'
  have hlen := hp.len
  have HSUB : Hid (∀ V, PAt pb A c T fin (deepP T fin deep s) V → Calls Try.prog 19 #[.pointer (some ⟨pb, 0, none⟩), .int .i64 (deep : Int)] V (NEnd pb A c T fin V q)) := fun V hV => H1 deep _ V q (by omega) hq hV
  have HPL : Hid (∀ V s, PAt pb A c T fin s V → Calls Try.prog 20 #[.pointer (some ⟨pb, 0, none⟩)] V fun e w' => e = .returned (.int .i64 (placeP T fin s)) ∧ Below V.heap.size V w') := fun V s hV => place_any hV
  have HTE : Hid (∀ V s, PAt pb A c T fin s V → Calls Try.prog 21 #[.pointer (some ⟨pb, 0, none⟩), .string ⟨#[61]⟩] V fun r w' => r = .returned (.bool (isP T sEq s)) ∧ PAt pb A c T fin (if isP T sEq s = true then nextP s else s) w' ∧ PFr pb V w') := fun V s hV => take_any hV sEq
  have HTB : Hid (∀ V s, PAt pb A c T fin s V → Calls Try.prog 21 #[.pointer (some ⟨pb, 0, none⟩), .string ⟨#[33]⟩] V fun r w' => r = .returned (.bool (isP T sBang s)) ∧ PAt pb A c T fin (if isP T sBang s = true then nextP s else s) w' ∧ PFr pb V w') := fun V s hV => take_any hV sBang
  have HFL : Hid (∀ V s, PAt pb A c T fin s V → Calls Try.prog 11 #[.pointer (some ⟨pb, 0, none⟩), .int .i64 111] V fun r w' => r = .returned (.tuple #[]) ∧ PAt pb A c T fin (failP T fin 111 s) w' ∧ PFr pb V w') := fun V s hV => pfail_any hV 111
  have HST := Lib.hid (ZI.start hp)
  have HH := Lib.hid H
  have HLL := Lib.hid hl
  clear hr hr' hq hl H hp H1
  go_enter Try.func10, Try.ntmps10
  go_upto_region 1 with (fail)
  refine wp_world (fun V => ZI pb A c T fin W s V) HST.out ?_
  intro V0 hz0
  clear HST
  have HZ0 := Lib.hid hz0
  clear hz0
  by_cases hd : 64 < deep
  case' pos =>
    have d1 : decide ((64 : Int) < (deep : Int)) = true := by simp; omega
    have HSD := Lib.hid (show failP T fin 111 s = deepP T fin deep s by unfold deepP; rw [if_pos hd])
    clear hd
    go_upto_region 3 with (go_at_call 11; refine (HFL.out _ _ HZ0.out.p).mono ?_; rintro e V1 ⟨rfl, hp1, hf1⟩)
    refine wp_world (fun V => ZI pb A c T fin W (deepP T fin deep s) V) (by rw [← HSD.out]; exact HZ0.out.act hp1 hf1) ?_
    clear hp1 hf1 HSD d1 HFL HZ0
  case' neg =>
    have d1 : decide ((64 : Int) < (deep : Int)) = false := by simp; omega
    have HSD := Lib.hid (show s = deepP T fin deep s by unfold deepP; rw [if_neg hd])
    clear hd
    go_upto_region 3 with (fail)
    refine wp_world (fun V => ZI pb A c T fin W (deepP T fin deep s) V) (by rw [← HSD.out]; exact HZ0.out) ?_
    clear HSD d1 HFL HZ0
  all_goals
    intro V2 hz2
    go_upto_region 4 with (go_at_call 19; refine (HSUB.out _ hz2.p).mono ?_; rintro e V3 ⟨x, hx, rfl, hok, hp3, hf3⟩; replace hx := Lib.hid hx)
    have HI := Lib.hid (BinI.start hz2.fr hz2.res hz2.pb hok hp3 hf3)
    obtain ⟨g, hg⟩ : ∃ g, V3.heap.size = g := ⟨_, rfl⟩
    rw [hg] at HI ⊢
    refine wp_world (fun V => BinI pb A c T fin W g x q.2 V) HI.out ?_
    clear HI hg hp3 hf3 hok HSUB hz2
    intro V4 hI
    have HP2 := Lib.hid (HPL.out V4 q.2 hI.p)
    obtain ⟨pl, hpl⟩ : ∃ pl, placeP T fin q.2 = pl := ⟨_, rfl⟩
    rw [hpl] at HP2 HLL
    have HI := Lib.hid hI
    clear hpl hI
    have hdq : deep + (n + 1) ≤ 4611686018427387904 := hdp
    have q9 : IntKind.i64.wrap ((deep : Int) + 1) = ((deep + 1 : Nat) : Int) := by rw [IntKind.wrap_i64]; omega
    cases hbe : isP T sEq q.2 with
    | true =>
      have hl' := HLL.out
      rw [hbe, if_pos rfl] at hl'
      obtain ⟨q2, hq2, hl2⟩ := bind_inv hl'
      have HT2 : Hid (∀ V, PAt pb A c T fin q.2 V → Calls Try.prog 21 #[.pointer (some ⟨pb, 0, none⟩), .string ⟨#[61]⟩] V fun r w' => r = .returned (.bool true) ∧ PAt pb A c T fin (nextP q.2) w' ∧ PFr pb V w') := fun V hV => by
        have := HTE.out V q.2 hV
        rw [hbe, if_pos rfl] at this
        exact this
      clear hbe
      go_upto_region 12 with (first
        | (go_at_call 20; refine HP2.out.mono ?_; rintro e V3 ⟨rfl, hb3⟩)
        | (go_at_call 21; with_reducible refine (HT2.out _ (HI.out.p.keep hb3)).mono ?_; rintro e V4 ⟨rfl, hp4, hf4⟩))
      refine wp_world (fun V => BinI pb A c T fin W g x (nextP q.2) V) ((HI.out.keep hb3).act hp4 hf4) ?_
      clear hp4 hf4 hb3 HP2 HT2 HI
      intro V5 hI5
      have HS2 : Hid (∀ V, PAt pb A c T fin (nextP q.2) V → Calls Try.prog 10 #[.pointer (some ⟨pb, 0, none⟩), .int .i64 (((deep + 1 : Nat) : Nat) : Int)] V (NEnd pb A c T fin V q2)) := fun V hV => HH.out (deep + 1) _ V q2 (by omega) hq2 hV
      have HRE := Lib.hid (Option.some.inj hl2)
      clear hl' hq2 hl2 HLL
      go_upto_region 13 with (go_at_call 10; refine (HS2.out _ hI5.p).mono ?_; rintro e V6 ⟨z, hz, rfl, hok, hp6, hf6⟩; replace hz := Lib.hid hz)
      have hZ6 : BinI pb A c T fin W g x q2.2 V6 := hI5.act hp6 hf6
      have hok6 := ok_le hok hI5.zi.lt
      have HI7 : Hid (BinI pb A c T fin W g x q2.2 (V6.alloc (.cells #[.int .i64 z.t.kind, .int .i64 z.t.int, .string ⟨z.t.name.toArray⟩, .int .i64 z.t.at_, .slice z.A z.t.kids.length z.c, .slice z.B z.t.clauses.length z.d, .slice z.C z.t.body.length z.e] 26)) ∧ z.Ok (fun k => k ≤ W.heap.size) (V6.alloc (.cells #[.int .i64 z.t.kind, .int .i64 z.t.int, .string ⟨z.t.name.toArray⟩, .int .i64 z.t.at_, .slice z.A z.t.kids.length z.c, .slice z.B z.t.clauses.length z.d, .slice z.C z.t.body.length z.e] 26)) ∧ NBx (V6.alloc (.cells #[.int .i64 z.t.kind, .int .i64 z.t.int, .string ⟨z.t.name.toArray⟩, .int .i64 z.t.at_, .slice z.A z.t.kids.length z.c, .slice z.B z.t.clauses.length z.d, .slice z.C z.t.body.length z.e] 26)) V6.heap.size z) := ⟨hZ6.keep (below_alloc _ _), fr_le hok6 (Fr.alloc (fun _ => False) _ _) (fun _ h => h.elim), Blk.new _ _ _⟩
      obtain ⟨g8, hg8⟩ : ∃ g8, V6.heap.size = g8 := ⟨_, rfl⟩
      rw [hg8] at HI7 ⊢
      refine wp_world (fun V => BinI pb A c T fin W g x q2.2 V ∧ z.Ok (fun k => k ≤ W.heap.size) V ∧ NBx V g8 z) HI7.out ?_
      clear HI7 hZ6 hok6 hok hp6 hf6 hg8 hI5
      rintro V7 ⟨hI7, hok7, hB8⟩
      obtain ⟨a0, a1, a2, a3, a4, a5, a6⟩ := hI7.a.cells
      obtain ⟨b0, b1, b2, b3, b4, b5, b6⟩ := hB8.cells
      obtain ⟨z0, z1, z2, z3, z4, z5, z6, f0, f1, f2, f3, f4, f5, f6⟩ := zbx_facts hI7.res
      have hlt7 := hI7.res.lt
      have HI7 := Lib.hid hI7
      have HOK7 := Lib.hid hok7
      clear hI7 hok7 hB8
      go_wp2
      have hF9 := (put7_fr V7 W.heap.size (.int .i64 11) (.int .i64 0) (.string ⟨#[]⟩) (.int .i64 pl) (.slice (some ⟨V7.heap.size, 0, none⟩) 2 2) (.slice none 0 0) (.slice none 0 0)).alloc2 (put7_size V7 W.heap.size _ _ _ _ _ _ _) (.cells (enL [x, z]).toArray 26)
      have HE := (HI7.out.zi.keep (below_alloc V7 (.cells (enL [x, z]).toArray 26))).give (two_le HI7.out.ok_le HOK7.out hlt7 11 [] pl rfl) hF9
      have HB9 : NBx ((put7 V7 W.heap.size (.int .i64 11) (.int .i64 0) (.string ⟨#[]⟩) (.int .i64 pl) (.slice (some ⟨V7.heap.size, 0, none⟩) 2 2) (.slice none 0 0) (.slice none 0 0)).alloc (.cells (enL [x, z]).toArray 26)) W.heap.size (mkN 11 [] pl [x.t, z.t] V7.heap.size 2) := (put7_blk HI7.out.res _ _ _ _ _ _ _).alloc _
      refine q_bp_world (fun V => NBx V W.heap.size (mkN 11 [] pl [x.t, z.t] V7.heap.size 2) ∧ (mkN 11 [] pl [x.t, z.t] V7.heap.size 2).Ok (fun k => k < W.heap.size) V ∧ PAt pb A c T fin q2.2 V ∧ PFr pb W V) ⟨HB9, HE⟩ ?_
      rintro V9 ⟨hB9, e1, e2, e3⟩
      obtain ⟨x0, x1, x2, x3, x4, x5, x6⟩ := hB9.cells
      obtain ⟨y9, hy9⟩ : ∃ y9, (mkN 11 [] pl [x.t, z.t] V7.heap.size 2) = y9 := ⟨_, rfl⟩
      have HY9 : Hid (y9.t = r.1 ∧ q2.2 = r.2) := by rw [← hy9]; exact by rw [← HRE.out, ← hx.out, ← hz.out]; exact ⟨rfl, rfl⟩
      rw [hy9] at x0 x1 x2 x3 x4 x5 x6 e1
      exact bodyPost_ret (v := .agg #[.int .i64 y9.t.kind, .int .i64 y9.t.int, .string ⟨y9.t.name.toArray⟩, .int .i64 y9.t.at_, .slice y9.A y9.t.kids.length y9.c, .slice y9.B y9.t.clauses.length y9.d, .slice y9.C y9.t.body.length y9.e]) (by simp [results, Try.results10, go_sem, x0, x1, x2, x3, x4, x5, x6]) rfl ⟨y9, HY9.out.1, rfl, e1, by rw [← HY9.out.2]; exact e2, e3⟩
    | false =>
      have HT2 : Hid (∀ V, PAt pb A c T fin q.2 V → Calls Try.prog 21 #[.pointer (some ⟨pb, 0, none⟩), .string ⟨#[61]⟩] V fun r w' => r = .returned (.bool false) ∧ PAt pb A c T fin q.2 w' ∧ PFr pb V w') := fun V hV => by
        have := HTE.out V q.2 hV
        rw [hbe, if_neg (by simp)] at this
        exact this
      have HLL2 := HLL.out
      rw [hbe, if_neg (by simp)] at HLL2
      clear hbe HLL
      have HLL := Lib.hid HLL2
      clear HLL2
      cases hbb : isP T sBang q.2 with
      | true =>
        have hl' := HLL.out
        rw [hbb, if_pos rfl] at hl'
        obtain ⟨q2, hq2, hl2⟩ := bind_inv hl'
        have HT3 : Hid (∀ V, PAt pb A c T fin q.2 V → Calls Try.prog 21 #[.pointer (some ⟨pb, 0, none⟩), .string ⟨#[33]⟩] V fun r w' => r = .returned (.bool true) ∧ PAt pb A c T fin (nextP q.2) w' ∧ PFr pb V w') := fun V hV => by
          have := HTB.out V q.2 hV
          rw [hbb, if_pos rfl] at this
          exact this
        clear hbb
        go_upto_region 12 with (first
          | (go_at_call 20; refine HP2.out.mono ?_; rintro e V3 ⟨rfl, hb3⟩)
          | (go_at_call 21; with_reducible refine (HT2.out _ (HI.out.p.keep hb3)).mono ?_; rintro e V4 ⟨rfl, hp4, hf4⟩)
          | (go_at_call 21; with_reducible refine (HT3.out _ hp4).mono ?_; rintro e V4 ⟨rfl, hp5, hf5⟩))
        refine wp_world (fun V => BinI pb A c T fin W g x (nextP q.2) V) (((HI.out.keep hb3).act hp4 hf4).act hp5 hf5) ?_
        clear hp4 hf4 hb3 HP2 HT2 HI hp5 hf5 HT3
        intro V5 hI5
        have HS2 : Hid (∀ V, PAt pb A c T fin (nextP q.2) V → Calls Try.prog 10 #[.pointer (some ⟨pb, 0, none⟩), .int .i64 (((deep + 1 : Nat) : Nat) : Int)] V (NEnd pb A c T fin V q2)) := fun V hV => HH.out (deep + 1) _ V q2 (by omega) hq2 hV
        have HRE := Lib.hid (Option.some.inj hl2)
        clear hl' hq2 hl2 HLL
        go_upto_region 13 with (go_at_call 10; refine (HS2.out _ hI5.p).mono ?_; rintro e V6 ⟨z, hz, rfl, hok, hp6, hf6⟩; replace hz := Lib.hid hz)
        have hZ6 : BinI pb A c T fin W g x q2.2 V6 := hI5.act hp6 hf6
        have hok6 := ok_le hok hI5.zi.lt
        have HI7 : Hid (BinI pb A c T fin W g x q2.2 (V6.alloc (.cells #[.int .i64 z.t.kind, .int .i64 z.t.int, .string ⟨z.t.name.toArray⟩, .int .i64 z.t.at_, .slice z.A z.t.kids.length z.c, .slice z.B z.t.clauses.length z.d, .slice z.C z.t.body.length z.e] 26)) ∧ z.Ok (fun k => k ≤ W.heap.size) (V6.alloc (.cells #[.int .i64 z.t.kind, .int .i64 z.t.int, .string ⟨z.t.name.toArray⟩, .int .i64 z.t.at_, .slice z.A z.t.kids.length z.c, .slice z.B z.t.clauses.length z.d, .slice z.C z.t.body.length z.e] 26)) ∧ NBx (V6.alloc (.cells #[.int .i64 z.t.kind, .int .i64 z.t.int, .string ⟨z.t.name.toArray⟩, .int .i64 z.t.at_, .slice z.A z.t.kids.length z.c, .slice z.B z.t.clauses.length z.d, .slice z.C z.t.body.length z.e] 26)) V6.heap.size z) := ⟨hZ6.keep (below_alloc _ _), fr_le hok6 (Fr.alloc (fun _ => False) _ _) (fun _ h => h.elim), Blk.new _ _ _⟩
        obtain ⟨g8, hg8⟩ : ∃ g8, V6.heap.size = g8 := ⟨_, rfl⟩
        rw [hg8] at HI7 ⊢
        refine wp_world (fun V => BinI pb A c T fin W g x q2.2 V ∧ z.Ok (fun k => k ≤ W.heap.size) V ∧ NBx V g8 z) HI7.out ?_
        clear HI7 hZ6 hok6 hok hp6 hf6 hg8 hI5
        rintro V7 ⟨hI7, hok7, hB8⟩
        obtain ⟨a0, a1, a2, a3, a4, a5, a6⟩ := hI7.a.cells
        obtain ⟨b0, b1, b2, b3, b4, b5, b6⟩ := hB8.cells
        obtain ⟨z0, z1, z2, z3, z4, z5, z6, f0, f1, f2, f3, f4, f5, f6⟩ := zbx_facts hI7.res
        have hlt7 := hI7.res.lt
        have HI7 := Lib.hid hI7
        have HOK7 := Lib.hid hok7
        clear hI7 hok7 hB8
        go_wp2
        have hF9 := (put7_fr V7 W.heap.size (.int .i64 12) (.int .i64 0) (.string ⟨#[]⟩) (.int .i64 pl) (.slice (some ⟨V7.heap.size, 0, none⟩) 2 2) (.slice none 0 0) (.slice none 0 0)).alloc2 (put7_size V7 W.heap.size _ _ _ _ _ _ _) (.cells (enL [x, z]).toArray 26)
        have HE := (HI7.out.zi.keep (below_alloc V7 (.cells (enL [x, z]).toArray 26))).give (two_le HI7.out.ok_le HOK7.out hlt7 12 [] pl rfl) hF9
        have HB9 : NBx ((put7 V7 W.heap.size (.int .i64 12) (.int .i64 0) (.string ⟨#[]⟩) (.int .i64 pl) (.slice (some ⟨V7.heap.size, 0, none⟩) 2 2) (.slice none 0 0) (.slice none 0 0)).alloc (.cells (enL [x, z]).toArray 26)) W.heap.size (mkN 12 [] pl [x.t, z.t] V7.heap.size 2) := (put7_blk HI7.out.res _ _ _ _ _ _ _).alloc _
        refine q_bp_world (fun V => NBx V W.heap.size (mkN 12 [] pl [x.t, z.t] V7.heap.size 2) ∧ (mkN 12 [] pl [x.t, z.t] V7.heap.size 2).Ok (fun k => k < W.heap.size) V ∧ PAt pb A c T fin q2.2 V ∧ PFr pb W V) ⟨HB9, HE⟩ ?_
        rintro V9 ⟨hB9, e1, e2, e3⟩
        obtain ⟨x0, x1, x2, x3, x4, x5, x6⟩ := hB9.cells
        obtain ⟨y9, hy9⟩ : ∃ y9, (mkN 12 [] pl [x.t, z.t] V7.heap.size 2) = y9 := ⟨_, rfl⟩
        have HY9 : Hid (y9.t = r.1 ∧ q2.2 = r.2) := by rw [← hy9]; exact by rw [← HRE.out, ← hx.out, ← hz.out]; exact ⟨rfl, rfl⟩
        rw [hy9] at x0 x1 x2 x3 x4 x5 x6 e1
        exact bodyPost_ret (v := .agg #[.int .i64 y9.t.kind, .int .i64 y9.t.int, .string ⟨y9.t.name.toArray⟩, .int .i64 y9.t.at_, .slice y9.A y9.t.kids.length y9.c, .slice y9.B y9.t.clauses.length y9.d, .slice y9.C y9.t.body.length y9.e]) (by simp [results, Try.results10, go_sem, x0, x1, x2, x3, x4, x5, x6]) rfl ⟨y9, HY9.out.1, rfl, e1, by rw [← HY9.out.2]; exact e2, e3⟩
      | false =>
        have hl' := HLL.out
        rw [hbb, if_neg (by simp)] at hl'
        have hre : q = r := Option.some.inj hl'
        have HT3 : Hid (∀ V, PAt pb A c T fin q.2 V → Calls Try.prog 21 #[.pointer (some ⟨pb, 0, none⟩), .string ⟨#[33]⟩] V fun r w' => r = .returned (.bool false) ∧ PAt pb A c T fin q.2 w' ∧ PFr pb V w') := fun V hV => by
          have := HTB.out V q.2 hV
          rw [hbb, if_neg (by simp)] at this
          exact this
        clear hl' hbb HLL
        subst hre
        go_upto_region 11 with (first
          | (go_at_call 20; refine HP2.out.mono ?_; rintro e V3 ⟨rfl, hb3⟩)
          | (go_at_call 21; with_reducible refine (HT2.out _ (HI.out.p.keep hb3)).mono ?_; rintro e V4 ⟨rfl, hp4, hf4⟩)
          | (go_at_call 21; with_reducible refine (HT3.out _ hp4).mono ?_; rintro e V4 ⟨rfl, hp5, hf5⟩))
        refine wp_world (fun V => BinI pb A c T fin W g x q.2 V) (((HI.out.keep hb3).act hp4 hf4).act hp5 hf5) ?_
        clear hp4 hf4 hb3 HI HP2 HT2 hp5 hf5 HT3
        intro V5 hI5
        obtain ⟨a0, a1, a2, a3, a4, a5, a6⟩ := hI5.a.cells
        obtain ⟨z0, z1, z2, z3, z4, z5, z6, f0, f1, f2, f3, f4, f5, f6⟩ := zbx_facts hI5.res
        go_wp2
        refine q_bp_world (fun V => NBx V W.heap.size x ∧ Fr (fun k => k = W.heap.size) V5 V) ⟨put7_blk hI5.res _ _ _ _ _ _ _, put7_fr _ _ _ _ _ _ _ _ _⟩ ?_
        rintro V6 ⟨hB6, hF6⟩
        obtain ⟨x0, x1, x2, x3, x4, x5, x6⟩ := hB6.cells
        obtain ⟨e1, e2, e3⟩ := hI5.fin_ hF6
        exact bodyPost_ret (v := .agg #[.int .i64 x.t.kind, .int .i64 x.t.int, .string ⟨x.t.name.toArray⟩, .int .i64 x.t.at_, .slice x.A x.t.kids.length x.c, .slice x.B x.t.clauses.length x.d, .slice x.C x.t.body.length x.e]) (by simp [results, Try.results10, go_sem, x0, x1, x2, x3, x4, x5, x6]) rfl ⟨x, hx.out, rfl, e1, e2, e3⟩

end
end
section
open Go.RowKit
set_option linter.unusedVariables false
section
variable {W W' : World}
theorem own_blk {base e size g n : Nat} {cs : Array Value} (h : Blk W g e cs) (hb : base ≤ g) (hn : n ≤ maxLen) (hs : cs.size = n * size) : W.ownsRow base e size (.slice (some ⟨g, 0, none⟩) n n) n cs.toList :=
  ⟨by rw [Array.length_toList]; exact hs, .inr ⟨g, n, cs, rfl, hb, h, Nat.le_refl _, hn, hs, by rw [← hs, ← Array.length_toList, List.take_length]⟩⟩
theorem own_form {base e size n : Nat} {v : Value} {xs : List Value} (h : W.ownsRow base e size v n xs) : ∃ A cap, v = .slice A n cap := by
  rcases h.2 with ⟨hv, hz⟩ | ⟨g, cap, cur, hv, _⟩
  · subst hz; exact ⟨none, 0, hv⟩
  · exact ⟨_, _, hv⟩
end
/-- What an element promises of the blocks that it leads to. -/
structure Elt (α : Type) where
  cells : α → List Value
  size : Nat
  e : Nat
  ok : (Nat → Prop) → World → α → Prop
  len : ∀ x, (cells x).length = size
  move : ∀ {S W S' W' x}, ok S W x → Mv S W S' W' → ok S' W' x
/-- A row of the call's own, of elements that keep off S and off the row itself. -/
structure Rw {α : Type} (E : Elt α) (B : Nat) (S : Nat → Prop) (xs : List α) (v : Value) (V : World) : Prop where
  own : V.ownsRow B E.e E.size v xs.length (flat E.cells xs)
  each : ∀ x ∈ xs, E.ok (fun k => S k ∨ v.ownBlock = some k) V x
  apart : ∀ k, v.ownBlock = some k → ¬ S k
  lt : ∀ k, S k → k < V.heap.size
section
variable {α : Type} {E : Elt α} {B : Nat} {S : Nat → Prop} {xs : List α} {v v' : Value} {V V' : World}
theorem Rw.nil_ (E : Elt α) (B : Nat) {S : Nat → Prop} (h : ∀ k, S k → k < V.heap.size) : Rw E B S [] (.slice none 0 0) V := ⟨World.ownsRow_nil _ _ _ _, fun x hx => by simp at hx, fun k hk => by simp [Value.ownBlock] at hk, h⟩
theorem Rw.fr {F : Nat → Prop} (h : Rw E B S xs v V) (hf : Fr F V V') (hF : ∀ k, F k → S k) : Rw E B S xs v V' :=
  ⟨own_fr h.own hf (fun k hk hfk => h.apart k hk (hF k hfk)), fun x hx => E.move (h.each x hx) (.of_fr hf (fun k hk => .inl (hF k hk)) fun _ _ h => h), h.apart, fun k hk => Nat.lt_of_lt_of_le (h.lt k hk) hf.size⟩
theorem Rw.below (h : Rw E B S xs v V) (hb : Below V.heap.size V V') : Rw E B S xs v V' := h.fr (Fr.of_below hb (fun _ => False)) (fun _ h => h.elim)
/-- What is given behind a world with the row keeps off it. -/
theorem Rw.off {x : α} (h : Rw E B S xs v V) (hx : E.ok (fun k => k < V.heap.size) V' x) : E.ok (fun k => S k ∨ v.ownBlock = some k) V' x := E.move hx (.sub_ fun k _ hk => by
  rcases hk with hk | hk
  · exact h.lt k hk
  · exact (h.own.lt k hk).2)
theorem Rw.app {ys : List α} {w' : World} (h : Rw E B S xs v V) (hx : ∀ x ∈ ys, E.ok (fun k => S k ∨ v.ownBlock = some k) V x) (ho : w'.ownsRow B E.e E.size v' (xs.length + ys.length) (flat E.cells xs ++ flat E.cells ys)) (hg : V.grownBy w' v.ownBlock) (hv : v'.ownBlock = v.ownBlock ∨ v'.ownBlock = some V.heap.size) : Rw E B S (xs ++ ys) v' w' := by
  have hF : Fr (fun k => v.ownBlock = some k) V w' := Fr.of_grown hg (fun k e _ => e)
  have hm : Mv (fun k => S k ∨ v.ownBlock = some k) V (fun k => S k ∨ v'.ownBlock = some k) w' := .of_fr hF (fun k hk => .inr hk) fun k hlt hk => by
    rcases hk with hk | hk
    · exact .inl hk
    · rcases hv with e | e
      · exact .inr (e ▸ hk)
      · rw [e] at hk
        have := Option.some.inj hk
        omega
  refine ⟨by rw [flat_append, List.length_append]; exact ho, fun y hy => ?_, fun k hk hs => ?_, fun k hk => Nat.lt_of_lt_of_le (h.lt k hk) hF.size⟩
  · rcases List.mem_append.1 hy with hy | hy
    · exact E.move (h.each y hy) hm
    · exact E.move (hx y hy) hm
  · rcases hv with e | e
    · exact h.apart k (e ▸ hk) hs
    · rw [e] at hk
      have := Option.some.inj hk
      have := h.lt k hs
      omega
theorem Rw.push {x : α} {w' : World} (h : Rw E B S xs v V) (hx : E.ok (fun k => S k ∨ v.ownBlock = some k) V x) (ho : w'.ownsRow B E.e E.size v' (xs.length + 1) (flat E.cells xs ++ E.cells x)) (hg : V.grownBy w' v.ownBlock) (hv : v'.ownBlock = v.ownBlock ∨ v'.ownBlock = some V.heap.size) : Rw E B S (xs ++ [x]) v' w' :=
  h.app (ys := [x]) (fun y hy => by obtain rfl : y = x := by simpa using hy
                                    exact hx) (by rw [flat_one]; exact ho) hg hv
theorem Rw.form (h : Rw E B S xs v V) : ∃ A cap, v = .slice A xs.length cap := own_form h.own
end
def eltN : Elt EN := ⟨EN.cells, 7, 26, EN.Ok, EN.cells_len, fun h m => EN.Ok.move h m⟩
def eltC : Elt EC := ⟨EC.cells, 5, 67, EC.Ok, EC.cells_len, fun h m => EC.Ok.move h m⟩
section
variable {B : Nat} {S : Nat → Prop} {V : World}
theorem Rw.rdn {xs : List EN} {A : Option Addr} {n cap : Nat} (h : Rw eltN B S xs (.slice A n cap) V) (hn : xs.length = n) : RdN S V A cap (xs.map (fun x : EN => x.t)) := by
  subst hn
  exact rdn_of_own (xs := xs) h.own rfl (fun g hg => h.apart g hg) (fun x hx => (h.each x hx).move (.sub_ fun _ _ hk => .inl hk))
theorem Rw.rdc {xs : List EC} {A : Option Addr} {n cap : Nat} (h : Rw eltC B S xs (.slice A n cap) V) (hn : xs.length = n) : RdC S V A cap (xs.map (fun x : EC => x.t)) := by
  subst hn
  exact rdc_of_own (xs := xs) h.own rfl (fun g hg => h.apart g hg) (fun x hx => (h.each x hx).move (.sub_ fun _ _ hk => .inl hk))
theorem nbx_one {g : Nat} {x : EN} (h : NBx V g x) : Cs V (some ⟨g, 0, none⟩) x.cells := blk_cs (xs := x.cells) h
/-- A row of one that was made. -/
theorem Rw.one {x : EN} {W0 : World} (hS : ∀ k, S k → k < V.heap.size) (hx : x.Ok S V) (hB : B ≤ V.heap.size) {cs : Array Value} (hcs : cs = (enL [x]).toArray) : Rw eltN B S [x] (.slice (some ⟨V.heap.size, 0, none⟩) 1 1) (V.alloc (.cells cs 26)) := by
  subst hcs
  refine ⟨own_blk (Blk.new V 26 (enL [x]).toArray) hB (by unfold maxLen; omega) rfl, fun y hy => ?_, fun k hk hs => ?_, fun k hk => Nat.lt_of_lt_of_le (hS k hk) (below_alloc _ _).size⟩
  · obtain rfl : y = x := by simpa using hy
    exact hx.move (.of_below (below_alloc _ _) fun k hlt hk => by
      rcases hk with hk | hk
      · exact hk
      · have : V.heap.size = k := Option.some.inj hk
        omega)
  · have : V.heap.size = k := Option.some.inj hk
    have := hS k hs
    omega
end
/-- The state of list's loop. -/
structure ListI (pb : Nat) (A : Option Addr) (c : Nat) (T : List Tok) (fin : Nat) (W : World) (xs : List EN) (v : Value) (s : PS) (wx : World) : Prop where
  p : PAt pb A c T fin s wx
  fr : PFr pb W wx
  row : Rw eltN W.heap.size (fun k => k < W.heap.size) xs v wx
  pb : pb < W.heap.size
section
variable {pb : Nat} {A : Option Addr} {c : Nat} {T : List Tok} {fin : Nat} {W : World}
theorem ListI.act {xs : List EN} {v : Value} {s s' : PS} {V V' : World} (h : ListI pb A c T fin W xs v s V) (hp : PAt pb A c T fin s' V') (hf : PFr pb V V') : ListI pb A c T fin W xs v s' V' :=
  ⟨hp, h.fr.same hf, h.row.fr hf (fun k hk => by have h9 : k = pb := hk; have := h.pb; show k < W.heap.size; omega), h.pb⟩
theorem list_own {B : Nat} {S : Nat → Prop} {xs : List EN} {k : Nat} {v : Value} {V : World} (h : Rw eltN B S xs v V) (hk : xs.length = k) {o : Obj} : (V.alloc o).ownsRow B 26 7 v k (enL xs) := by
  subst hk
  exact (h.below (below_alloc V o)).own
theorem ListI.push {xs : List EN} {z : EN} {v v' : Value} {s : PS} {V w' : World} {o : Obj} (h : ListI pb A c T fin W xs v s V) (hz : z.Ok (fun k => k < W.heap.size ∨ v.ownBlock = some k) V) (ho : w'.ownsRow W.heap.size 26 7 v' (xs.length + 1) (enL xs ++ z.cells)) (hg : (V.alloc o).grownBy w' v.ownBlock) (hat : v'.ownBlock = v.ownBlock ∨ v'.ownBlock = some (V.alloc o).heap.size) :
    ListI pb A c T fin W (xs ++ [z]) v' s w' := by
  have h2 := h.pb
  have hr := h.row.below (below_alloc V o)
  have hF : Fr (fun k => v.ownBlock = some k) (V.alloc o) w' := Fr.of_grown hg (fun k e _ => e)
  have hn : ∀ k, v.ownBlock = some k → W.heap.size ≤ k := fun k hk => (h.row.own.lt k hk).1
  refine ⟨(h.p.keep (below_alloc V o)).far hF (fun e => by have := hn _ e; omega) (fun b q e e2 => by have := hn _ e2; have := h.p.apart b q e; omega), (h.fr.same (Fr.alloc _ _ _)).trans hF (fun k hk e => by have := hn _ e; omega), hr.push (hz.move (.of_below (below_alloc V o) fun _ _ h => h)) ho hg hat, h.pb⟩

set_option maxRecDepth 100000 in
set_option maxHeartbeats 4000000 in
theorem list_step {n : Nat} (H : ∀ m, m ≤ n → NodeOk pb A c T fin 10 Lang.expr m) : ListOk pb A c T fin (n + 1) := by
  intro deep s W r hdp hr hp
  have hr' : listN (lang T fin n) deep s = some r := hr
  unfold listN at hr'
  obtain ⟨q, hq, hl⟩ := bind_inv hr'
  have hlen := hp.len
  have hpb := hp.obj.lt
  have hdq : deep + (n + 1) ≤ 4611686018427387904 := hdp
  have HC : Hid (Calls Try.prog 10 #[.pointer (some ⟨pb, 0, none⟩), .int .i64 (deep : Int)] W (NEnd pb A c T fin W q)) := H n (Nat.le_refl _) deep s W q (by omega) hq hp
  have HIT := Lib.hid H
  have HL := Lib.hid hl
  have HTK : Hid (∀ V s, PAt pb A c T fin s V → Calls Try.prog 21 #[.pointer (some ⟨pb, 0, none⟩), .string ⟨#[44]⟩] V fun r w' => r = .returned (.bool (isP T sComma s)) ∧ PAt pb A c T fin (if isP T sComma s = true then nextP s else s) w' ∧ PFr pb V w') := fun V s hV => take_any hV sComma
  clear hr hr' hq hl H hp
  go_enter Try.func71, Try.ntmps71
  go_upto_region 2 with (go_at_call 10; refine HC.out.mono ?_; rintro e V1 ⟨x, hx, rfl, hok, hp1, hf1⟩; replace hx := Lib.hid hx)
  have hI : ListI pb A c T fin W [x] (.slice (some ⟨V1.heap.size, 0, none⟩) 1 1) q.2 (V1.alloc (.cells #[.int .i64 x.t.kind, .int .i64 x.t.int, .string ⟨x.t.name.toArray⟩, .int .i64 x.t.at_, .slice x.A x.t.kids.length x.c, .slice x.B x.t.clauses.length x.d, .slice x.C x.t.body.length x.e] 26)) :=
    ⟨hp1.keep (below_alloc _ _), hf1.same (Fr.alloc _ _ _), Rw.one (W0 := W) (fun k hk => Nat.lt_of_lt_of_le hk hf1.size) hok hf1.size rfl, hpb⟩
  have HI := Lib.hid hI
  obtain ⟨v0, hv0⟩ : ∃ v0, Value.slice (some ⟨V1.heap.size, 0, none⟩) 1 1 = v0 := ⟨_, rfl⟩
  rw [hv0] at HI ⊢
  refine wp_world (fun V => ListI pb A c T fin W [x] v0 q.2 V) HI.out ?_
  have HL2 : Hid ((lang T fin n).listL deep ([x].map (fun x : EN => x.t)) q.2 = some r) := by rw [List.map_singleton, hx.out]; exact HL.out
  clear HI hv0 hp1 hf1 hok hI HC
  intro V2 hI
  go_loopw [5] (fun v wx => ∃ (m : Nat) (xs : List EN) (s' : PS), m ≤ n ∧ xs.length ≤ s'.i + 1 ∧ (lang T fin m).listL deep (xs.map (fun x : EN => x.t)) s' = some r ∧ ListI pb A c T fin W xs v s' wx) (fun _ wx => T.length - posOf pb wx)
  case atStart => exact ⟨n, [x], q.2, Nat.le_refl _, by simp, HL2.out, hI⟩
  case round =>
    clear hI HL2
    obtain ⟨m, xs, s', hm, hxl, hl, hI⟩ := hrel
    obtain _ | m := m
    · exact absurd hl (by simp [lang, Lang.none_])
    have hl' : listLN T (lang T fin m) deep (xs.map (fun x : EN => x.t)) s' = some r := hl
    unfold listLN at hl'
    have HI := Lib.hid hI
    obtain ⟨B5, c5, rfl⟩ := hI.row.form
    obtain ⟨k, hk⟩ : ∃ k, xs.length = k := ⟨_, rfl⟩
    rw [hk] at HI hxl ⊢
    have HXL := Lib.hid hxl
    have HK := Lib.hid hk
    cases hb : isP T sComma s' with
    | false =>
      rw [hb, if_neg (by simp)] at hl'
      have HRE := Lib.hid (Option.some.inj hl')
      have HT2 : Hid (∀ V, PAt pb A c T fin s' V → Calls Try.prog 21 #[.pointer (some ⟨pb, 0, none⟩), .string ⟨#[44]⟩] V fun r w' => r = .returned (.bool false) ∧ PAt pb A c T fin s' w' ∧ PFr pb V w') := fun V hV => by
        have := HTK.out V s' hV
        rw [hb, if_neg (by simp)] at this
        exact this
      clear hl' hb hl hI hk hxl
      go_wp2_with (go_at_call 21; refine (HT2.out _ HI.out.p).mono ?_; rintro e V4 ⟨rfl, hp4, hf4⟩)
      go_ret
      have hI4 := HI.out.act hp4 hf4
      have hre := HRE.out
      refine ⟨B5, c5, ?_, ?_, ?_, hI4.fr⟩
      · rw [← hre, List.length_map, HK.out]; rfl
      · rw [← hre]; exact hI4.row.rdn HK.out
      · rw [← hre]; exact hI4.p
    | true =>
      rw [hb, if_pos rfl] at hl'
      obtain ⟨q2, hq2, hl2⟩ := bind_inv hl'
      have HS2 : Hid (∀ V, PAt pb A c T fin (nextP s') V → Calls Try.prog 10 #[.pointer (some ⟨pb, 0, none⟩), .int .i64 (deep : Int)] V (NEnd pb A c T fin V q2)) := fun V hV => HIT.out m (by omega) deep _ V q2 (by omega) hq2 hV
      have HM : Hid (s'.i < q2.2.i ∧ s'.i < T.length) := by
        have := ((lang_mono T fin m).expr _ _ _ hq2).i
        simp only [nextP] at this
        exact ⟨this, (isP_lt hb).2⟩
      have HL3 := Lib.hid hl2
      have HT2 : Hid (∀ V, PAt pb A c T fin s' V → Calls Try.prog 21 #[.pointer (some ⟨pb, 0, none⟩), .string ⟨#[44]⟩] V fun r w' => r = .returned (.bool true) ∧ PAt pb A c T fin (nextP s') w' ∧ PFr pb V w') := fun V hV => by
        have := HTK.out V s' hV
        rw [hb, if_pos rfl] at this
        exact this
      have hk6 : k ≤ 16384 := by have := HM.out.2; omega
      clear hl' hb hl hI hk hxl hq2 hl2
      go_wp2_with (first
        | (go_at_call 21; refine (HT2.out _ HI.out.p).mono ?_; rintro e V4 ⟨rfl, hp4, hf4⟩; have hI4 := HI.out.act hp4 hf4)
        | (go_at_call 10; go_loud (refine (HS2.out _ hI4.p).mono ?_; rintro e V5 ⟨z, hz, rfl, hok, hp5, hf5⟩; replace hz := Lib.hid hz; have hoff := Lib.hid (hI4.row.off (x := z) hok); have HI5 := Lib.hid (hI4.act hp5 hf5); have HO5 := Lib.hid (fun o => list_own (o := o) HI5.out.row HK.out); have hb5 : W.heap.size ≤ V5.heap.size := HI5.out.fr.size))
        | (at_builtin; refine wpList_app nodeT rfl (.tmp 12) (.tmp 16) rfl W.heap.size (.slice B5 k c5) k (enL xs) rfl (HO5.out _) (some ⟨V5.heap.size, 0, none⟩) 1 1 z.cells rfl rfl (nbx_one (Blk.new V5 _ _)) z.cells_one (by unfold maxLen; omega) (by omega) (Nat.le_trans hb5 (below_alloc _ _).size) ?_; intro v' w' ho hg hat))
      have hI6 := HI5.out.push hoff.out (by rw [HK.out]; exact ho) hg hat
      go_roundw
      case rel => exact ⟨m, xs ++ [z], q2.2, by omega, by rw [List.length_append, HK.out]; have := HM.out.1; have := HXL.out; simp only [List.length_cons, List.length_nil]; omega, by rw [List.map_append, List.map_singleton, hz.out]; exact HL3.out, hI6⟩
      case measure =>
        refine Nat.lt_of_le_of_lt (Nat.le_of_eq (congrArg (T.length - ·) (posOf_eq hI6.p))) ?_
        rw [posOf_eq HI.out.p]
        have h2 := HM.out
        have h3 := hp5.hi
        omega

end
end
end Go.Proofs.Ythhindnjnijglaa
