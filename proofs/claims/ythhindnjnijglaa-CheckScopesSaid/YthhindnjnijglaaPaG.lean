/- Layer 11: the walks of or, and, sum, prod: operators that join from the left. Layer 11: the walks of rel, expr, sign. -/
import Derived.Test.YthhindnjnijglaaPaE
import Derived.Test.YthhindnjnijglaaOrd
namespace Go.Proofs.Ythhindnjnijglaa
section
open Go.RowKit
set_option linter.unusedVariables false

/-- The loop's state: what has been joined lies in the box g. -/
structure BinI (pb : Nat) (A : Option Addr) (c : Nat) (T : List Tok) (fin : Nat) (W : World) (g : Nat) (x : EN) (s : PS) (wx : World) : Prop where
  p : PAt pb A c T fin s wx
  fr : PFr pb W wx
  res : ZBx wx W.heap.size
  a : NBx wx g x
  ok : x.Ok (fun k => k ≤ W.heap.size ∨ k = g) wx
  g : W.heap.size < g
  pb : pb < W.heap.size
section
variable {pb : Nat} {A : Option Addr} {c : Nat} {T : List Tok} {fin : Nat} {W : World}
theorem opP_one (T : List Tok) (w : List UInt8) (s : PS) : opP T [w] s = if isP T w s = true then some w else none := by
  unfold opP
  rw [List.find?_cons]
  cases isP T w s <;> rfl
theorem BinI.start {V V' : World} {x : EN} {s : PS} (hb : PFr pb W V) (hz : ZBx V W.heap.size) (hp : pb < W.heap.size) (hok : x.Ok (fun k => k < V.heap.size) V') (hA : PAt pb A c T fin s V') (hf : PFr pb V V') :
    BinI pb A c T fin W V'.heap.size x s (V'.alloc (.cells #[.int .i64 x.t.kind, .int .i64 x.t.int, .string ⟨x.t.name.toArray⟩, .int .i64 x.t.at_, .slice x.A x.t.kids.length x.c, .slice x.B x.t.clauses.length x.d, .slice x.C x.t.body.length x.e] 26)) := by
  have h1 := hz.lt
  have h2 := hf.size
  have hz' : ZBx V' W.heap.size := hf.blk hz (by show ¬ W.heap.size = pb; omega)
  refine ⟨hA.keep (below_alloc _ _), (hb.same hf).same (Fr.alloc _ _ _), hz'.alloc _, Blk.new _ _ _, hok.move (.of_below (below_alloc _ _) fun k hk h => ?_), by omega, hp⟩
  show k < V.heap.size
  rcases h with h | h <;> omega
theorem BinI.keep {g : Nat} {x : EN} {s : PS} {V V' : World} (h : BinI pb A c T fin W g x s V) (hb : Below V.heap.size V V') : BinI pb A c T fin W g x s V' :=
  ⟨h.p.keep hb, h.fr.same (Fr.of_below hb _), h.res.keep hb, h.a.keep hb, h.ok.move (.of_below hb fun _ _ h => h), h.g, h.pb⟩
theorem BinI.act {g : Nat} {x : EN} {s s' : PS} {V V' : World} (h : BinI pb A c T fin W g x s V) (hp : PAt pb A c T fin s' V') (hf : PFr pb V V') : BinI pb A c T fin W g x s' V' := by
  have h1 := h.g
  have h2 := h.pb
  exact ⟨hp, h.fr.same hf, hf.blk h.res (by show ¬ W.heap.size = pb; omega), hf.blk h.a (by show ¬ g = pb; omega), h.ok.move (.of_fr hf (fun k hk => .inl (by have h9 : k = pb := hk; omega)) fun _ _ h => h), h.g, h.pb⟩
theorem BinI.fin_ {g : Nat} {y : EN} {s : PS} {V V' : World} (h : BinI pb A c T fin W g y s V) (hF : Fr (fun k => k = W.heap.size) V V') : y.Ok (fun k => k < W.heap.size) V' ∧ PAt pb A c T fin s V' ∧ PFr pb W V' := by
  have h2 := h.pb
  refine ⟨h.ok.move (.of_fr hF (fun k hk => .inl (by have h9 : k = W.heap.size := hk; omega)) fun k _ hk => .inl (by have h9 : k < W.heap.size := hk; omega)), h.p.far hF (by show ¬ pb = W.heap.size; omega) (fun b o e => by have := h.p.apart b o e; show ¬ b = W.heap.size; omega), h.fr.trans hF (fun k hk e => by have h9 : k = W.heap.size := e; omega)⟩
/-- op at a row of words that was made for it. -/
theorem op_made {s : PS} {V : World} (hV : PAt pb A c T fin s V) (l : List (List UInt8)) {n : Nat} {cs : Array Value} (hcs : cs = (l.map (fun w => Value.string ⟨w.toArray⟩)).toArray) (hn : l.length = n ∧ n ≤ 100) :
    Calls Try.prog 69 #[.pointer (some ⟨pb, 0, none⟩), .slice (some ⟨V.heap.size, 0, none⟩) n n] (V.alloc (.cells cs 9)) fun r w' => r = .returned (.string ⟨((opP T l s).getD []).toArray⟩) ∧ PAt pb A c T fin (opS T l s) w' ∧ PFr pb V w' := by
  subst hcs
  have hlt := hV.obj.lt
  refine (op_any (hV.keep (below_alloc V _)) l (fun j hj => ?_) (by omega) hn.1 hn.2).mono fun e w' ⟨h1, h2, h3⟩ => ⟨h1, h2, (Fr.alloc _ _ _).same h3⟩
  rw [(Blk.new V _ _).cell j]
  simp [hj]
/-- Another node joins. -/
theorem BinI.join {g : Nat} {x y : EN} {s s' : PS} {V V' : World} (h : BinI pb A c T fin W g x s V) (hy : y.Ok (fun k => k < V.heap.size) V') (hp : PAt pb A c T fin s' V') (hf : PFr pb V V') {w : List UInt8} {at_ : Int} {cs : Array Value} (hcs : cs = (enL [x, y]).toArray) {V'' : World} (hF : Fr (fun k => k = g) (V'.alloc (.cells cs 26)) V'') (hB : NBx V'' g (mkN 9 w at_ [x.t, y.t] V'.heap.size 2)) :
    BinI pb A c T fin W g (mkN 9 w at_ [x.t, y.t] V'.heap.size 2) s' V'' := by
  have h1 := h.g
  have h2 := h.pb
  have h3 := (h.act hp hf).a.lt
  have h4 := h.a.lt
  have h5 := hf.size
  have hA := (h.act hp hf).keep (below_alloc V' (.cells cs 26))
  have hpr := pair_ok (S := fun k => k ≤ W.heap.size ∨ k = g) (h.act hp hf).ok (hy.move (.sub_ fun k hk h => by show k < V.heap.size; rcases h with h | h <;> omega)) (by intro h; rcases h with h | h <;> omega) hcs
  refine ⟨hA.p.far hF (by show ¬ pb = g; omega) ?_, hA.fr.trans hF (fun k hk e => by have e' : k = g := e; omega), hF.blk hA.res (by show ¬ W.heap.size = g; omega), hB, (mkN_ok hpr).move (.of_fr hF (fun k hk => .inr hk) fun _ _ h => h), h1, h2⟩
  intro b o hAe
  have := hp.apart b o hAe
  show ¬ b = g
  omega

set_option maxRecDepth 100000 in
set_option maxHeartbeats 4000000 in
theorem or_step {n : Nat} (H : ∀ m, m ≤ n → NodeOk pb A c T fin 37 Lang.and_ m) : NodeOk pb A c T fin 19 Lang.or_ (n + 1) := by
  intro deep s W r hdp hr hp
  have hr' : binN (Lang.and_ (lang T fin n)) (Lang.orL (lang T fin n)) deep s = some r := hr
  unfold binN at hr'
  obtain ⟨q, hq, hl⟩ := bind_inv hr'
  have hlen := hp.len
  have hpb := hp.obj.lt
  have HSUB : Hid (∀ V, PAt pb A c T fin s V → Calls Try.prog 37 #[.pointer (some ⟨pb, 0, none⟩), .int .i64 (deep : Int)] V (NEnd pb A c T fin V q)) := fun V hV => H n (Nat.le_refl _) deep s V q (by omega) hq hV
  have HIT := Lib.hid H
  have HL := Lib.hid hl
  have HPL : Hid (∀ V s, PAt pb A c T fin s V → Calls Try.prog 20 #[.pointer (some ⟨pb, 0, none⟩)] V fun e w' => e = .returned (.int .i64 (placeP T fin s)) ∧ Below V.heap.size V w') := fun V s hV => place_any hV
  have HTK : Hid (∀ V s, PAt pb A c T fin s V → Calls Try.prog 21 #[.pointer (some ⟨pb, 0, none⟩), .string ⟨#[111, 114]⟩] V fun r w' => r = .returned (.bool (isP T sOr s)) ∧ PAt pb A c T fin (if isP T sOr s = true then nextP s else s) w' ∧ PFr pb V w') := fun V s hV => take_any hV sOr
  have HST : Hid (ZBx (W.alloc (.cells #[.int .i64 0, .int .i64 0, .string ⟨#[]⟩, .int .i64 0, .slice none 0 0, .slice none 0 0, .slice none 0 0] 26)) W.heap.size ∧ PAt pb A c T fin s (W.alloc (.cells #[.int .i64 0, .int .i64 0, .string ⟨#[]⟩, .int .i64 0, .slice none 0 0, .slice none 0 0, .slice none 0 0] 26)) ∧ Below W.heap.size W (W.alloc (.cells #[.int .i64 0, .int .i64 0, .string ⟨#[]⟩, .int .i64 0, .slice none 0 0, .slice none 0 0, .slice none 0 0] 26))) := ⟨Blk.new _ _ _, hp.keep (below_alloc _ _), below_alloc _ _⟩
  clear hr hr' hq hl H hp
  go_enter Try.func19, Try.ntmps19
  go_upto_region 1 with (fail)
  refine wp_world (fun V => ZBx V W.heap.size ∧ PAt pb A c T fin s V ∧ Below W.heap.size W V) HST.out ?_
  rintro V0 ⟨hz, hp0, hb0⟩
  clear HST
  go_upto_region 2 with (go_at_call 37; refine (HSUB.out _ hp0).mono ?_; rintro e V1 ⟨x, hx, rfl, hok, hp1, hf1⟩; replace hx := Lib.hid hx)
  have HI := Lib.hid (BinI.start (Fr.of_below hb0 _) hz hpb hok hp1 hf1)
  obtain ⟨g, hg⟩ : ∃ g, V1.heap.size = g := ⟨_, rfl⟩
  rw [hg] at HI ⊢
  refine wp_world (fun V => BinI pb A c T fin W g x q.2 V) HI.out ?_
  have HL2 : Hid (Lang.orL (lang T fin n) deep x.t q.2 = some r) := by rw [hx.out]; exact HL.out
  clear HI hg hp1 hf1 hok hx HSUB hz hp0 hb0 HL V1 V0
  intro V2 hI
  go_loopw [6] (fun _ wx => ∃ (m : Nat) (x : EN) (s' : PS), m ≤ n ∧ Lang.orL (lang T fin m) deep x.t s' = some r ∧ BinI pb A c T fin W g x s' wx) (fun _ wx => T.length - posOf pb wx)
  case atStart => exact ⟨n, x, q.2, Nat.le_refl _, HL2.out, hI⟩
  case round =>
    clear hI V2 HL2
    obtain ⟨m, y, s', hm, hl, hI⟩ := hrel
    obtain _ | m := m
    · exact absurd hl (by simp [lang, Lang.none_])
    have hl' : binLN T fin [sOr] (Lang.and_ (lang T fin m)) (Lang.orL (lang T fin m)) deep y.t s' = some r := hl
    unfold binLN at hl'
    rw [opP_one] at hl'
    have HP2 := Lib.hid (HPL.out wr s' hI.p)
    obtain ⟨pl, hpl⟩ : ∃ pl, placeP T fin s' = pl := ⟨_, rfl⟩
    rw [hpl] at HP2 hl'
    have HI := Lib.hid hI
    cases hb : isP T sOr s' with
    | false =>
      rw [hb, if_neg (by simp)] at hl'
      have hre : (y.t, s') = r := Option.some.inj hl'
      have HT2 : Hid (∀ V, PAt pb A c T fin s' V → Calls Try.prog 21 #[.pointer (some ⟨pb, 0, none⟩), .string ⟨#[111, 114]⟩] V fun r w' => r = .returned (.bool false) ∧ PAt pb A c T fin s' w' ∧ PFr pb V w') := fun V hV => by
        have := HTK.out V s' hV
        rw [hb, if_neg (by simp)] at this
        exact this
      clear hl' hb hl hpl
      subst hre
      go_upto_region 4 with (first
        | (go_at_call 20; refine HP2.out.mono ?_; rintro e V3 ⟨rfl, hb3⟩)
        | (go_at_call 21; refine (HT2.out _ (HI.out.p.keep hb3)).mono ?_; rintro e V4 ⟨rfl, hp4, hf4⟩))
      refine wp_world (fun V => BinI pb A c T fin W g y s' V) ((HI.out.keep hb3).act hp4 hf4) ?_
      clear hp4 hf4 hb3 HI hI HP2 HT2
      intro V5 hI5
      obtain ⟨a0, a1, a2, a3, a4, a5, a6⟩ := hI5.a.cells
      obtain ⟨z0, z1, z2, z3, z4, z5, z6, f0, f1, f2, f3, f4, f5, f6⟩ := zbx_facts hI5.res
      go_wp2
      refine q_bp_world (fun V => NBx V W.heap.size y ∧ Fr (fun k => k = W.heap.size) V5 V) ⟨put7_blk hI5.res _ _ _ _ _ _ _, put7_fr _ _ _ _ _ _ _ _ _⟩ ?_
      rintro V6 ⟨hB6, hF6⟩
      obtain ⟨x0, x1, x2, x3, x4, x5, x6⟩ := hB6.cells
      obtain ⟨e1, e2, e3⟩ := hI5.fin_ hF6
      exact bodyPost_ret (v := .agg #[.int .i64 y.t.kind, .int .i64 y.t.int, .string ⟨y.t.name.toArray⟩, .int .i64 y.t.at_, .slice y.A y.t.kids.length y.c, .slice y.B y.t.clauses.length y.d, .slice y.C y.t.body.length y.e]) (by simp [results, Try.results19, go_sem, x0, x1, x2, x3, x4, x5, x6]) rfl ⟨y, rfl, rfl, e1, e2, e3⟩
    | true =>
      rw [hb, if_pos rfl] at hl'
      obtain ⟨q2, hq2, hl2⟩ := bind_inv hl'
      have HS2 : Hid (∀ V, PAt pb A c T fin (nextP s') V → Calls Try.prog 37 #[.pointer (some ⟨pb, 0, none⟩), .int .i64 (deep : Int)] V (NEnd pb A c T fin V q2)) := fun V hV => HIT.out m (by omega) deep _ V q2 (by omega) hq2 hV
      have HM : Hid (s'.i < q2.2.i) := by
        have := ((lang_mono T fin m).and_ _ _ _ hq2).i
        simp only [nextP] at this
        exact this
      have HL2 := Lib.hid hl2
      have HT2 : Hid (∀ V, PAt pb A c T fin s' V → Calls Try.prog 21 #[.pointer (some ⟨pb, 0, none⟩), .string ⟨#[111, 114]⟩] V fun r w' => r = .returned (.bool true) ∧ PAt pb A c T fin (nextP s') w' ∧ PFr pb V w') := fun V hV => by
        have := HTK.out V s' hV
        rw [hb, if_pos rfl] at this
        exact this
      clear hl' hb hl hpl hq2 hl2
      go_upto_region 5 with (first
        | (go_at_call 20; refine HP2.out.mono ?_; rintro e V3 ⟨rfl, hb3⟩)
        | (go_at_call 21; refine (HT2.out _ (HI.out.p.keep hb3)).mono ?_; rintro e V4 ⟨rfl, hp4, hf4⟩))
      refine wp_world (fun V => BinI pb A c T fin W g y (nextP s') V) ((HI.out.keep hb3).act hp4 hf4) ?_
      clear hp4 hf4 hb3 hI HP2 HT2
      intro V5 hI5
      have HI5 := Lib.hid hI5
      have HGP : Hid (¬ g = pb) := by have := hI5.g; have := hI5.pb; show ¬ g = pb; omega
      refine wp_region_W 7 (fun X => NBx X g y) (by kernel_rfl) ?_ (fun hS0 => ?_)
      · exact hI5.a
      clear hI5
      (refine wpAnyW_take (i := 0) (v := ?_) rfl (by kernel_rfl) (by kernel_rfl) (by kernel_rfl) (by kernel_rfl) (fun _ _ _ h => h) (Or.inl ⟨by kernel_rfl, ?_⟩) (by assumption) ?_; rotate_left; focus (intro V9 hS9; go_simp; (try (with_reducible rfl)); done))
      try simp only [Act.put, List.getElem_toArray, List.getElem_cons_zero, List.setIfInBounds_toArray, List.set_cons_succ, List.set_cons_zero]
      (refine wpAnyW_take (i := 1) (v := ?_) rfl (by kernel_rfl) (by kernel_rfl) (by kernel_rfl) (by kernel_rfl) (fun _ _ _ h => h) (Or.inl ⟨by kernel_rfl, ?_⟩) (by assumption) ?_; rotate_left; focus (intro V9 hS9; obtain ⟨a0, a1, a2, a3, a4, a5, a6⟩ := NBx.cells hS9; go_simp; (try (with_reducible rfl)); done))
      try simp only [Act.put, List.getElem_toArray, List.getElem_cons_succ, List.getElem_cons_zero, List.setIfInBounds_toArray, List.set_cons_succ, List.set_cons_zero]
      (refine wpAnyW_take (i := 2) (v := ?_) rfl (by kernel_rfl) (by kernel_rfl) (by kernel_rfl) (by kernel_rfl) (fun _ _ _ h => h) (Or.inl ⟨by kernel_rfl, ?_⟩) (by assumption) ?_; rotate_left; focus (intro V9 hS9; go_simp; (try (with_reducible rfl)); done))
      try simp only [Act.put, List.getElem_toArray, List.getElem_cons_succ, List.getElem_cons_zero, List.setIfInBounds_toArray, List.set_cons_succ, List.set_cons_zero]
      (refine wpAnyW_take (i := 3) (v := ?_) rfl (by kernel_rfl) (by kernel_rfl) (by kernel_rfl) (by kernel_rfl) (fun _ _ _ h => h) (Or.inl ⟨by kernel_rfl, ?_⟩) (by assumption) ?_; rotate_left; focus (intro V9 hS9; go_simp; (try (with_reducible rfl)); done))
      try simp only [Act.put, List.getElem_toArray, List.getElem_cons_succ, List.getElem_cons_zero, List.setIfInBounds_toArray, List.set_cons_succ, List.set_cons_zero]
      refine wpAnyW_ready (rs := [4]) (by kernel_rfl) (by simp) ?_
      refine AllReadyW.cons rfl (fun K hK => ?_) AllReadyW.nil
      go_simp
      refine (HS2.out _ (HI5.out.p.keep (below_drewN (Below.refl _ _) 1))).mono ?_
      rintro e V6 ⟨z, hz, rfl, hok, hp6, hf6⟩
      replace hz := Lib.hid hz
      have hB6 : NBx V6 g y := hf6.blk (show NBx V5.drew g y from HI5.out.a) HGP.out
      refine hK.out _ _ hB6 (fun _ => ?_)
      clear hK K
      try simp only [Act.put, List.getElem_toArray, List.getElem_cons_succ, List.getElem_cons_zero, List.setIfInBounds_toArray, List.set_cons_succ, List.set_cons_zero]
      refine wpAnyW_ready (rs := [5]) (by kernel_rfl) (by simp) ?_
      refine AllReadyW.cons rfl (fun K hK => ?_) AllReadyW.nil
      go_simp
      refine hK.out _ _ (hB6.alloc _) (fun _ => ?_)
      clear hK K
      try simp only [Act.put, List.getElem_toArray, List.getElem_cons_succ, List.getElem_cons_zero, List.setIfInBounds_toArray, List.set_cons_succ, List.set_cons_zero]
      (refine wpAnyW_take (i := 6) (v := ?_) rfl (by kernel_rfl) (by kernel_rfl) (by kernel_rfl) (by kernel_rfl) (fun _ _ _ h => h) (Or.inl ⟨by kernel_rfl, ?_⟩) (by assumption) ?_; rotate_left; focus (intro V9 hS9; go_simp; (try (with_reducible rfl)); done))
      try simp only [Act.put, List.getElem_toArray, List.getElem_cons_succ, List.getElem_cons_zero, List.setIfInBounds_toArray, List.set_cons_succ, List.set_cons_zero]
      refine wpAnyW_ready (rs := [7]) (by kernel_rfl) (by simp) ?_
      refine AllReadyW.consE rfl (by kernel_rfl) (fun K hK => ?_) AllReadyW.nil
      obtain ⟨a0, a1, a2, a3, a4, a5, a6, f0, f1, f2, f3, f4, f5, f6⟩ := nbx_facts hB6
      have hlt6 := hB6.lt
      go_simp
      refine hK.out _ _ ?_
      clear hK K
      refine wpAnyW_done (by kernel_rfl) ?_ _
      have hJ := HI5.out.join (V := V5) (V' := V6) (y := z) (s' := q2.2) (w := sOr) (at_ := pl) hok hp6 ⟨hf6.os, hf6.tape, hf6.output, hf6.size, hf6.block⟩ rfl ((put7_fr V6 g _ _ _ _ _ _ _).alloc2 (put7_size V6 g _ _ _ _ _ _ _) _) ((put7_blk hB6 _ _ _ _ _ _ _).alloc _)
      go_wp2
      go_roundw
      case rel => exact ⟨m, _, q2.2, by omega, by rw [show (mkN 9 sOr pl [y.t, z.t] V6.heap.size 2).t = .mk 9 0 sOr pl [y.t, q2.1] [] [] by rw [← hz.out]; rfl]; exact HL2.out, hJ⟩
      case measure =>
        refine Nat.lt_of_le_of_lt (Nat.le_of_eq (congrArg (T.length - ·) (posOf_eq hJ.p))) ?_
        rw [posOf_eq HI.out.p]
        have h1 := hp6.hi
        have h2 := HM.out
        omega

set_option maxRecDepth 100000 in
set_option maxHeartbeats 4000000 in
theorem and_step {n : Nat} (H : ∀ m, m ≤ n → NodeOk pb A c T fin 57 Lang.rel m) : NodeOk pb A c T fin 37 Lang.and_ (n + 1) := by
  intro deep s W r hdp hr hp
  have hr' : binN (Lang.rel (lang T fin n)) (Lang.andL (lang T fin n)) deep s = some r := hr
  unfold binN at hr'
  obtain ⟨q, hq, hl⟩ := bind_inv hr'
  have hlen := hp.len
  have hpb := hp.obj.lt
  have HSUB : Hid (∀ V, PAt pb A c T fin s V → Calls Try.prog 57 #[.pointer (some ⟨pb, 0, none⟩), .int .i64 (deep : Int)] V (NEnd pb A c T fin V q)) := fun V hV => H n (Nat.le_refl _) deep s V q (by omega) hq hV
  have HIT := Lib.hid H
  have HL := Lib.hid hl
  have HPL : Hid (∀ V s, PAt pb A c T fin s V → Calls Try.prog 20 #[.pointer (some ⟨pb, 0, none⟩)] V fun e w' => e = .returned (.int .i64 (placeP T fin s)) ∧ Below V.heap.size V w') := fun V s hV => place_any hV
  have HTK : Hid (∀ V s, PAt pb A c T fin s V → Calls Try.prog 21 #[.pointer (some ⟨pb, 0, none⟩), .string ⟨#[97, 110, 100]⟩] V fun r w' => r = .returned (.bool (isP T sAnd s)) ∧ PAt pb A c T fin (if isP T sAnd s = true then nextP s else s) w' ∧ PFr pb V w') := fun V s hV => take_any hV sAnd
  have HST : Hid (ZBx (W.alloc (.cells #[.int .i64 0, .int .i64 0, .string ⟨#[]⟩, .int .i64 0, .slice none 0 0, .slice none 0 0, .slice none 0 0] 26)) W.heap.size ∧ PAt pb A c T fin s (W.alloc (.cells #[.int .i64 0, .int .i64 0, .string ⟨#[]⟩, .int .i64 0, .slice none 0 0, .slice none 0 0, .slice none 0 0] 26)) ∧ Below W.heap.size W (W.alloc (.cells #[.int .i64 0, .int .i64 0, .string ⟨#[]⟩, .int .i64 0, .slice none 0 0, .slice none 0 0, .slice none 0 0] 26))) := ⟨Blk.new _ _ _, hp.keep (below_alloc _ _), below_alloc _ _⟩
  clear hr hr' hq hl H hp
  go_enter Try.func37, Try.ntmps37
  go_upto_region 1 with (fail)
  refine wp_world (fun V => ZBx V W.heap.size ∧ PAt pb A c T fin s V ∧ Below W.heap.size W V) HST.out ?_
  rintro V0 ⟨hz, hp0, hb0⟩
  clear HST
  go_upto_region 2 with (go_at_call 57; refine (HSUB.out _ hp0).mono ?_; rintro e V1 ⟨x, hx, rfl, hok, hp1, hf1⟩; replace hx := Lib.hid hx)
  have HI := Lib.hid (BinI.start (Fr.of_below hb0 _) hz hpb hok hp1 hf1)
  obtain ⟨g, hg⟩ : ∃ g, V1.heap.size = g := ⟨_, rfl⟩
  rw [hg] at HI ⊢
  refine wp_world (fun V => BinI pb A c T fin W g x q.2 V) HI.out ?_
  have HL2 : Hid (Lang.andL (lang T fin n) deep x.t q.2 = some r) := by rw [hx.out]; exact HL.out
  clear HI hg hp1 hf1 hok hx HSUB hz hp0 hb0 HL V1 V0
  intro V2 hI
  go_loopw [6] (fun _ wx => ∃ (m : Nat) (x : EN) (s' : PS), m ≤ n ∧ Lang.andL (lang T fin m) deep x.t s' = some r ∧ BinI pb A c T fin W g x s' wx) (fun _ wx => T.length - posOf pb wx)
  case atStart => exact ⟨n, x, q.2, Nat.le_refl _, HL2.out, hI⟩
  case round =>
    clear hI V2 HL2
    obtain ⟨m, y, s', hm, hl, hI⟩ := hrel
    obtain _ | m := m
    · exact absurd hl (by simp [lang, Lang.none_])
    have hl' : binLN T fin [sAnd] (Lang.rel (lang T fin m)) (Lang.andL (lang T fin m)) deep y.t s' = some r := hl
    unfold binLN at hl'
    rw [opP_one] at hl'
    have HP2 := Lib.hid (HPL.out wr s' hI.p)
    obtain ⟨pl, hpl⟩ : ∃ pl, placeP T fin s' = pl := ⟨_, rfl⟩
    rw [hpl] at HP2 hl'
    have HI := Lib.hid hI
    cases hb : isP T sAnd s' with
    | false =>
      rw [hb, if_neg (by simp)] at hl'
      have hre : (y.t, s') = r := Option.some.inj hl'
      have HT2 : Hid (∀ V, PAt pb A c T fin s' V → Calls Try.prog 21 #[.pointer (some ⟨pb, 0, none⟩), .string ⟨#[97, 110, 100]⟩] V fun r w' => r = .returned (.bool false) ∧ PAt pb A c T fin s' w' ∧ PFr pb V w') := fun V hV => by
        have := HTK.out V s' hV
        rw [hb, if_neg (by simp)] at this
        exact this
      clear hl' hb hl hpl
      subst hre
      go_upto_region 4 with (first
        | (go_at_call 20; refine HP2.out.mono ?_; rintro e V3 ⟨rfl, hb3⟩)
        | (go_at_call 21; refine (HT2.out _ (HI.out.p.keep hb3)).mono ?_; rintro e V4 ⟨rfl, hp4, hf4⟩))
      refine wp_world (fun V => BinI pb A c T fin W g y s' V) ((HI.out.keep hb3).act hp4 hf4) ?_
      clear hp4 hf4 hb3 HI hI HP2 HT2
      intro V5 hI5
      obtain ⟨a0, a1, a2, a3, a4, a5, a6⟩ := hI5.a.cells
      obtain ⟨z0, z1, z2, z3, z4, z5, z6, f0, f1, f2, f3, f4, f5, f6⟩ := zbx_facts hI5.res
      go_wp2
      refine q_bp_world (fun V => NBx V W.heap.size y ∧ Fr (fun k => k = W.heap.size) V5 V) ⟨put7_blk hI5.res _ _ _ _ _ _ _, put7_fr _ _ _ _ _ _ _ _ _⟩ ?_
      rintro V6 ⟨hB6, hF6⟩
      obtain ⟨x0, x1, x2, x3, x4, x5, x6⟩ := hB6.cells
      obtain ⟨e1, e2, e3⟩ := hI5.fin_ hF6
      exact bodyPost_ret (v := .agg #[.int .i64 y.t.kind, .int .i64 y.t.int, .string ⟨y.t.name.toArray⟩, .int .i64 y.t.at_, .slice y.A y.t.kids.length y.c, .slice y.B y.t.clauses.length y.d, .slice y.C y.t.body.length y.e]) (by simp [results, Try.results37, go_sem, x0, x1, x2, x3, x4, x5, x6]) rfl ⟨y, rfl, rfl, e1, e2, e3⟩
    | true =>
      rw [hb, if_pos rfl] at hl'
      obtain ⟨q2, hq2, hl2⟩ := bind_inv hl'
      have HS2 : Hid (∀ V, PAt pb A c T fin (nextP s') V → Calls Try.prog 57 #[.pointer (some ⟨pb, 0, none⟩), .int .i64 (deep : Int)] V (NEnd pb A c T fin V q2)) := fun V hV => HIT.out m (by omega) deep _ V q2 (by omega) hq2 hV
      have HM : Hid (s'.i < q2.2.i) := by
        have := ((lang_mono T fin m).rel _ _ _ hq2).i
        simp only [nextP] at this
        exact this
      have HL2 := Lib.hid hl2
      have HT2 : Hid (∀ V, PAt pb A c T fin s' V → Calls Try.prog 21 #[.pointer (some ⟨pb, 0, none⟩), .string ⟨#[97, 110, 100]⟩] V fun r w' => r = .returned (.bool true) ∧ PAt pb A c T fin (nextP s') w' ∧ PFr pb V w') := fun V hV => by
        have := HTK.out V s' hV
        rw [hb, if_pos rfl] at this
        exact this
      clear hl' hb hl hpl hq2 hl2
      go_upto_region 5 with (first
        | (go_at_call 20; refine HP2.out.mono ?_; rintro e V3 ⟨rfl, hb3⟩)
        | (go_at_call 21; refine (HT2.out _ (HI.out.p.keep hb3)).mono ?_; rintro e V4 ⟨rfl, hp4, hf4⟩))
      refine wp_world (fun V => BinI pb A c T fin W g y (nextP s') V) ((HI.out.keep hb3).act hp4 hf4) ?_
      clear hp4 hf4 hb3 hI HP2 HT2
      intro V5 hI5
      have HI5 := Lib.hid hI5
      have HGP : Hid (¬ g = pb) := by have := hI5.g; have := hI5.pb; show ¬ g = pb; omega
      refine wp_region_W 7 (fun X => NBx X g y) (by kernel_rfl) ?_ (fun hS0 => ?_)
      · exact hI5.a
      clear hI5
      (refine wpAnyW_take (i := 0) (v := ?_) rfl (by kernel_rfl) (by kernel_rfl) (by kernel_rfl) (by kernel_rfl) (fun _ _ _ h => h) (Or.inl ⟨by kernel_rfl, ?_⟩) (by assumption) ?_; rotate_left; focus (intro V9 hS9; go_simp; (try (with_reducible rfl)); done))
      try simp only [Act.put, List.getElem_toArray, List.getElem_cons_zero, List.setIfInBounds_toArray, List.set_cons_succ, List.set_cons_zero]
      (refine wpAnyW_take (i := 1) (v := ?_) rfl (by kernel_rfl) (by kernel_rfl) (by kernel_rfl) (by kernel_rfl) (fun _ _ _ h => h) (Or.inl ⟨by kernel_rfl, ?_⟩) (by assumption) ?_; rotate_left; focus (intro V9 hS9; obtain ⟨a0, a1, a2, a3, a4, a5, a6⟩ := NBx.cells hS9; go_simp; (try (with_reducible rfl)); done))
      try simp only [Act.put, List.getElem_toArray, List.getElem_cons_succ, List.getElem_cons_zero, List.setIfInBounds_toArray, List.set_cons_succ, List.set_cons_zero]
      (refine wpAnyW_take (i := 2) (v := ?_) rfl (by kernel_rfl) (by kernel_rfl) (by kernel_rfl) (by kernel_rfl) (fun _ _ _ h => h) (Or.inl ⟨by kernel_rfl, ?_⟩) (by assumption) ?_; rotate_left; focus (intro V9 hS9; go_simp; (try (with_reducible rfl)); done))
      try simp only [Act.put, List.getElem_toArray, List.getElem_cons_succ, List.getElem_cons_zero, List.setIfInBounds_toArray, List.set_cons_succ, List.set_cons_zero]
      (refine wpAnyW_take (i := 3) (v := ?_) rfl (by kernel_rfl) (by kernel_rfl) (by kernel_rfl) (by kernel_rfl) (fun _ _ _ h => h) (Or.inl ⟨by kernel_rfl, ?_⟩) (by assumption) ?_; rotate_left; focus (intro V9 hS9; go_simp; (try (with_reducible rfl)); done))
      try simp only [Act.put, List.getElem_toArray, List.getElem_cons_succ, List.getElem_cons_zero, List.setIfInBounds_toArray, List.set_cons_succ, List.set_cons_zero]
      refine wpAnyW_ready (rs := [4]) (by kernel_rfl) (by simp) ?_
      refine AllReadyW.cons rfl (fun K hK => ?_) AllReadyW.nil
      go_simp
      refine (HS2.out _ (HI5.out.p.keep (below_drewN (Below.refl _ _) 1))).mono ?_
      rintro e V6 ⟨z, hz, rfl, hok, hp6, hf6⟩
      replace hz := Lib.hid hz
      have hB6 : NBx V6 g y := hf6.blk (show NBx V5.drew g y from HI5.out.a) HGP.out
      refine hK.out _ _ hB6 (fun _ => ?_)
      clear hK K
      try simp only [Act.put, List.getElem_toArray, List.getElem_cons_succ, List.getElem_cons_zero, List.setIfInBounds_toArray, List.set_cons_succ, List.set_cons_zero]
      refine wpAnyW_ready (rs := [5]) (by kernel_rfl) (by simp) ?_
      refine AllReadyW.cons rfl (fun K hK => ?_) AllReadyW.nil
      go_simp
      refine hK.out _ _ (hB6.alloc _) (fun _ => ?_)
      clear hK K
      try simp only [Act.put, List.getElem_toArray, List.getElem_cons_succ, List.getElem_cons_zero, List.setIfInBounds_toArray, List.set_cons_succ, List.set_cons_zero]
      (refine wpAnyW_take (i := 6) (v := ?_) rfl (by kernel_rfl) (by kernel_rfl) (by kernel_rfl) (by kernel_rfl) (fun _ _ _ h => h) (Or.inl ⟨by kernel_rfl, ?_⟩) (by assumption) ?_; rotate_left; focus (intro V9 hS9; go_simp; (try (with_reducible rfl)); done))
      try simp only [Act.put, List.getElem_toArray, List.getElem_cons_succ, List.getElem_cons_zero, List.setIfInBounds_toArray, List.set_cons_succ, List.set_cons_zero]
      refine wpAnyW_ready (rs := [7]) (by kernel_rfl) (by simp) ?_
      refine AllReadyW.consE rfl (by kernel_rfl) (fun K hK => ?_) AllReadyW.nil
      obtain ⟨a0, a1, a2, a3, a4, a5, a6, f0, f1, f2, f3, f4, f5, f6⟩ := nbx_facts hB6
      have hlt6 := hB6.lt
      go_simp
      refine hK.out _ _ ?_
      clear hK K
      refine wpAnyW_done (by kernel_rfl) ?_ _
      have hJ := HI5.out.join (V := V5) (V' := V6) (y := z) (s' := q2.2) (w := sAnd) (at_ := pl) hok hp6 ⟨hf6.os, hf6.tape, hf6.output, hf6.size, hf6.block⟩ rfl ((put7_fr V6 g _ _ _ _ _ _ _).alloc2 (put7_size V6 g _ _ _ _ _ _ _) _) ((put7_blk hB6 _ _ _ _ _ _ _).alloc _)
      go_wp2
      go_roundw
      case rel => exact ⟨m, _, q2.2, by omega, by rw [show (mkN 9 sAnd pl [y.t, z.t] V6.heap.size 2).t = .mk 9 0 sAnd pl [y.t, q2.1] [] [] by rw [← hz.out]; rfl]; exact HL2.out, hJ⟩
      case measure =>
        refine Nat.lt_of_le_of_lt (Nat.le_of_eq (congrArg (T.length - ·) (posOf_eq hJ.p))) ?_
        rw [posOf_eq HI.out.p]
        have h1 := hp6.hi
        have h2 := HM.out
        omega

set_option maxRecDepth 100000 in
set_option maxHeartbeats 4000000 in
theorem sum_step {n : Nat} (H : ∀ m, m ≤ n → NodeOk pb A c T fin 73 Lang.prod m) : NodeOk pb A c T fin 68 Lang.sum (n + 1) := by
  intro deep s W r hdp hr hp
  have hr' : binN (Lang.prod (lang T fin n)) (Lang.sumL (lang T fin n)) deep s = some r := hr
  unfold binN at hr'
  obtain ⟨q, hq, hl⟩ := bind_inv hr'
  have hlen := hp.len
  have hpb := hp.obj.lt
  have HSUB : Hid (∀ V, PAt pb A c T fin s V → Calls Try.prog 73 #[.pointer (some ⟨pb, 0, none⟩), .int .i64 (deep : Int)] V (NEnd pb A c T fin V q)) := fun V hV => H n (Nat.le_refl _) deep s V q (by omega) hq hV
  have HIT := Lib.hid H
  have HL := Lib.hid hl
  have HPL : Hid (∀ V s, PAt pb A c T fin s V → Calls Try.prog 20 #[.pointer (some ⟨pb, 0, none⟩)] V fun e w' => e = .returned (.int .i64 (placeP T fin s)) ∧ Below V.heap.size V w') := fun V s hV => place_any hV
  have HOP : Hid (∀ V s, PAt pb A c T fin s V → Calls Try.prog 69 #[.pointer (some ⟨pb, 0, none⟩), .slice (some ⟨V.heap.size, 0, none⟩) 2 2] (V.alloc (.cells #[.string ⟨#[43]⟩, .string ⟨#[45]⟩] 9)) fun r w' => r = .returned (.string ⟨((opP T sSum s).getD []).toArray⟩) ∧ PAt pb A c T fin (opS T sSum s) w' ∧ PFr pb V w') := fun V s hV => op_made hV sSum rfl (by simp [sSum])
  have HST : Hid (ZBx (W.alloc (.cells #[.int .i64 0, .int .i64 0, .string ⟨#[]⟩, .int .i64 0, .slice none 0 0, .slice none 0 0, .slice none 0 0] 26)) W.heap.size ∧ PAt pb A c T fin s (W.alloc (.cells #[.int .i64 0, .int .i64 0, .string ⟨#[]⟩, .int .i64 0, .slice none 0 0, .slice none 0 0, .slice none 0 0] 26)) ∧ Below W.heap.size W (W.alloc (.cells #[.int .i64 0, .int .i64 0, .string ⟨#[]⟩, .int .i64 0, .slice none 0 0, .slice none 0 0, .slice none 0 0] 26))) := ⟨Blk.new _ _ _, hp.keep (below_alloc _ _), below_alloc _ _⟩
  clear hr hr' hq hl H hp
  go_enter Try.func68, Try.ntmps68
  go_upto_region 1 with (fail)
  refine wp_world (fun V => ZBx V W.heap.size ∧ PAt pb A c T fin s V ∧ Below W.heap.size W V) HST.out ?_
  rintro V0 ⟨hz, hp0, hb0⟩
  clear HST
  go_upto_region 2 with (go_at_call 73; refine (HSUB.out _ hp0).mono ?_; rintro e V1 ⟨x, hx, rfl, hok, hp1, hf1⟩; replace hx := Lib.hid hx)
  have HI := Lib.hid (BinI.start (Fr.of_below hb0 _) hz hpb hok hp1 hf1)
  obtain ⟨g, hg⟩ : ∃ g, V1.heap.size = g := ⟨_, rfl⟩
  rw [hg] at HI ⊢
  refine wp_world (fun V => BinI pb A c T fin W g x q.2 V) HI.out ?_
  have HL2 : Hid (Lang.sumL (lang T fin n) deep x.t q.2 = some r) := by rw [hx.out]; exact HL.out
  clear HI hg hp1 hf1 hok hx HSUB hz hp0 hb0 HL V1 V0
  intro V2 hI
  go_loopw [6, 7] (fun _ _ wx => ∃ (m : Nat) (x : EN) (s' : PS), m ≤ n ∧ Lang.sumL (lang T fin m) deep x.t s' = some r ∧ BinI pb A c T fin W g x s' wx) (fun _ _ wx => T.length - posOf pb wx)
  case atStart => exact ⟨n, x, q.2, Nat.le_refl _, HL2.out, hI⟩
  case round =>
    clear hI V2 HL2
    obtain ⟨m, y, s', hm, hl, hI⟩ := hrel
    obtain _ | m := m
    · exact absurd hl (by simp [lang, Lang.none_])
    have hl' : binLN T fin sSum (Lang.prod (lang T fin m)) (Lang.sumL (lang T fin m)) deep y.t s' = some r := hl
    unfold binLN at hl'
    have HP2 := Lib.hid (HPL.out wr s' hI.p)
    obtain ⟨pl, hpl⟩ : ∃ pl, placeP T fin s' = pl := ⟨_, rfl⟩
    rw [hpl] at HP2 hl'
    have HI := Lib.hid hI
    cases hb : opP T sSum s' with
    | none =>
      rw [hb] at hl'
      have hre : (y.t, s') = r := Option.some.inj hl'
      have HT2 : Hid (∀ V, PAt pb A c T fin s' V → Calls Try.prog 69 #[.pointer (some ⟨pb, 0, none⟩), .slice (some ⟨V.heap.size, 0, none⟩) 2 2] (V.alloc (.cells #[.string ⟨#[43]⟩, .string ⟨#[45]⟩] 9)) fun r w' => r = .returned (.string ⟨#[]⟩) ∧ PAt pb A c T fin s' w' ∧ PFr pb V w') := fun V hV => by
        have := HOP.out V s' hV
        rw [hb, opS_none hb] at this
        exact this
      clear hl' hb hl hpl
      subst hre
      go_upto_region 5 with (first
        | (go_at_call 20; refine HP2.out.mono ?_; rintro e V3 ⟨rfl, hb3⟩)
        | (go_at_call 69; refine (HT2.out _ (HI.out.p.keep hb3)).mono ?_; rintro e V4 ⟨rfl, hp4, hf4⟩))
      refine wp_world (fun V => BinI pb A c T fin W g y s' V) ((HI.out.keep hb3).act hp4 hf4) ?_
      clear hp4 hf4 hb3 HI hI HP2 HT2
      intro V5 hI5
      obtain ⟨a0, a1, a2, a3, a4, a5, a6⟩ := hI5.a.cells
      obtain ⟨z0, z1, z2, z3, z4, z5, z6, f0, f1, f2, f3, f4, f5, f6⟩ := zbx_facts hI5.res
      go_wp2
      refine q_bp_world (fun V => NBx V W.heap.size y ∧ Fr (fun k => k = W.heap.size) V5 V) ⟨put7_blk hI5.res _ _ _ _ _ _ _, put7_fr _ _ _ _ _ _ _ _ _⟩ ?_
      rintro V6 ⟨hB6, hF6⟩
      obtain ⟨x0, x1, x2, x3, x4, x5, x6⟩ := hB6.cells
      obtain ⟨e1, e2, e3⟩ := hI5.fin_ hF6
      exact bodyPost_ret (v := .agg #[.int .i64 y.t.kind, .int .i64 y.t.int, .string ⟨y.t.name.toArray⟩, .int .i64 y.t.at_, .slice y.A y.t.kids.length y.c, .slice y.B y.t.clauses.length y.d, .slice y.C y.t.body.length y.e]) (by simp [results, Try.results68, go_sem, x0, x1, x2, x3, x4, x5, x6]) rfl ⟨y, rfl, rfl, e1, e2, e3⟩
    | some w =>
      rw [hb] at hl'
      obtain ⟨q2, hq2, hl2⟩ := bind_inv hl'
      have HS2 : Hid (∀ V, PAt pb A c T fin (nextP s') V → Calls Try.prog 73 #[.pointer (some ⟨pb, 0, none⟩), .int .i64 (deep : Int)] V (NEnd pb A c T fin V q2)) := fun V hV => HIT.out m (by omega) deep _ V q2 (by omega) hq2 hV
      have hlt' := (isP_lt (opP_is hb)).2
      have HM : Hid (s'.i < q2.2.i) := by
        have := ((lang_mono T fin m).prod _ _ _ hq2).i
        simp only [nextP] at this
        exact this
      have HL2 := Lib.hid hl2
      have HT2 : Hid (∀ V, PAt pb A c T fin s' V → Calls Try.prog 69 #[.pointer (some ⟨pb, 0, none⟩), .slice (some ⟨V.heap.size, 0, none⟩) 2 2] (V.alloc (.cells #[.string ⟨#[43]⟩, .string ⟨#[45]⟩] 9)) fun r w' => r = .returned (.string ⟨w.toArray⟩) ∧ PAt pb A c T fin (nextP s') w' ∧ PFr pb V w') := fun V hV => by
        have := HOP.out V s' hV
        rw [hb, opS_some hb] at this
        exact this
      have hne : (w == ([] : List UInt8)) = false := by
        have h9 : ∀ v ∈ sSum, v ≠ [] := by simp [sSum]
        have := h9 w (List.mem_of_find?_eq_some hb)
        cases w with
        | nil => exact absurd rfl this
        | cons a b => rfl
      clear hl' hb hl hpl hq2 hl2 hlt'
      go_upto_region 6 with (first
        | (go_at_call 20; refine HP2.out.mono ?_; rintro e V3 ⟨rfl, hb3⟩)
        | (go_at_call 69; refine (HT2.out _ (HI.out.p.keep hb3)).mono ?_; rintro e V4 ⟨rfl, hp4, hf4⟩))
      refine wp_world (fun V => BinI pb A c T fin W g y (nextP s') V) ((HI.out.keep hb3).act hp4 hf4) ?_
      clear hp4 hf4 hb3 hI HP2 HT2
      intro V5 hI5
      have HI5 := Lib.hid hI5
      have HGP : Hid (¬ g = pb) := by have := hI5.g; have := hI5.pb; show ¬ g = pb; omega
      refine wp_region_W 8 (fun X => NBx X g y) (by kernel_rfl) ?_ (fun hS0 => ?_)
      · exact hI5.a
      clear hI5
      (refine wpAnyW_take (i := 0) (v := ?_) rfl (by kernel_rfl) (by kernel_rfl) (by kernel_rfl) (by kernel_rfl) (fun _ _ _ h => h) (Or.inl ⟨by kernel_rfl, ?_⟩) (by assumption) ?_; rotate_left; focus (intro V9 hS9; go_simp; (try (with_reducible rfl)); done))
      try simp only [Act.put, List.getElem_toArray, List.getElem_cons_zero, List.setIfInBounds_toArray, List.set_cons_succ, List.set_cons_zero]
      (refine wpAnyW_take (i := 1) (v := ?_) rfl (by kernel_rfl) (by kernel_rfl) (by kernel_rfl) (by kernel_rfl) (fun _ _ _ h => h) (Or.inl ⟨by kernel_rfl, ?_⟩) (by assumption) ?_; rotate_left; focus (intro V9 hS9; go_simp; (try (with_reducible rfl)); done))
      try simp only [Act.put, List.getElem_toArray, List.getElem_cons_succ, List.getElem_cons_zero, List.setIfInBounds_toArray, List.set_cons_succ, List.set_cons_zero]
      (refine wpAnyW_take (i := 2) (v := ?_) rfl (by kernel_rfl) (by kernel_rfl) (by kernel_rfl) (by kernel_rfl) (fun _ _ _ h => h) (Or.inl ⟨by kernel_rfl, ?_⟩) (by assumption) ?_; rotate_left; focus (intro V9 hS9; obtain ⟨a0, a1, a2, a3, a4, a5, a6⟩ := NBx.cells hS9; go_simp; (try (with_reducible rfl)); done))
      try simp only [Act.put, List.getElem_toArray, List.getElem_cons_succ, List.getElem_cons_zero, List.setIfInBounds_toArray, List.set_cons_succ, List.set_cons_zero]
      (refine wpAnyW_take (i := 3) (v := ?_) rfl (by kernel_rfl) (by kernel_rfl) (by kernel_rfl) (by kernel_rfl) (fun _ _ _ h => h) (Or.inl ⟨by kernel_rfl, ?_⟩) (by assumption) ?_; rotate_left; focus (intro V9 hS9; go_simp; (try (with_reducible rfl)); done))
      try simp only [Act.put, List.getElem_toArray, List.getElem_cons_succ, List.getElem_cons_zero, List.setIfInBounds_toArray, List.set_cons_succ, List.set_cons_zero]
      (refine wpAnyW_take (i := 4) (v := ?_) rfl (by kernel_rfl) (by kernel_rfl) (by kernel_rfl) (by kernel_rfl) (fun _ _ _ h => h) (Or.inl ⟨by kernel_rfl, ?_⟩) (by assumption) ?_; rotate_left; focus (intro V9 hS9; go_simp; (try (with_reducible rfl)); done))
      try simp only [Act.put, List.getElem_toArray, List.getElem_cons_succ, List.getElem_cons_zero, List.setIfInBounds_toArray, List.set_cons_succ, List.set_cons_zero]
      refine wpAnyW_ready (rs := [5]) (by kernel_rfl) (by simp) ?_
      refine AllReadyW.cons rfl (fun K hK => ?_) AllReadyW.nil
      go_simp
      refine (HS2.out _ (HI5.out.p.keep (below_drewN (Below.refl _ _) 1))).mono ?_
      rintro e V6 ⟨z, hz, rfl, hok, hp6, hf6⟩
      replace hz := Lib.hid hz
      have hB6 : NBx V6 g y := hf6.blk (show NBx V5.drew g y from HI5.out.a) HGP.out
      refine hK.out _ _ hB6 (fun _ => ?_)
      clear hK K
      try simp only [Act.put, List.getElem_toArray, List.getElem_cons_succ, List.getElem_cons_zero, List.setIfInBounds_toArray, List.set_cons_succ, List.set_cons_zero]
      refine wpAnyW_ready (rs := [6]) (by kernel_rfl) (by simp) ?_
      refine AllReadyW.cons rfl (fun K hK => ?_) AllReadyW.nil
      go_simp
      refine hK.out _ _ (hB6.alloc _) (fun _ => ?_)
      clear hK K
      try simp only [Act.put, List.getElem_toArray, List.getElem_cons_succ, List.getElem_cons_zero, List.setIfInBounds_toArray, List.set_cons_succ, List.set_cons_zero]
      (refine wpAnyW_take (i := 7) (v := ?_) rfl (by kernel_rfl) (by kernel_rfl) (by kernel_rfl) (by kernel_rfl) (fun _ _ _ h => h) (Or.inl ⟨by kernel_rfl, ?_⟩) (by assumption) ?_; rotate_left; focus (intro V9 hS9; go_simp; (try (with_reducible rfl)); done))
      try simp only [Act.put, List.getElem_toArray, List.getElem_cons_succ, List.getElem_cons_zero, List.setIfInBounds_toArray, List.set_cons_succ, List.set_cons_zero]
      refine wpAnyW_ready (rs := [8]) (by kernel_rfl) (by simp) ?_
      refine AllReadyW.consE rfl (by kernel_rfl) (fun K hK => ?_) AllReadyW.nil
      obtain ⟨a0, a1, a2, a3, a4, a5, a6, f0, f1, f2, f3, f4, f5, f6⟩ := nbx_facts hB6
      have hlt6 := hB6.lt
      go_simp
      refine hK.out _ _ ?_
      clear hK K
      refine wpAnyW_done (by kernel_rfl) ?_ _
      have hJ := HI5.out.join (V := V5) (V' := V6) (y := z) (s' := q2.2) (w := w) (at_ := pl) hok hp6 ⟨hf6.os, hf6.tape, hf6.output, hf6.size, hf6.block⟩ rfl ((put7_fr V6 g _ _ _ _ _ _ _).alloc2 (put7_size V6 g _ _ _ _ _ _ _) _) ((put7_blk hB6 _ _ _ _ _ _ _).alloc _)
      go_wp2
      go_roundw
      case rel => exact ⟨m, _, q2.2, by omega, by rw [show (mkN 9 w pl [y.t, z.t] V6.heap.size 2).t = .mk 9 0 w pl [y.t, q2.1] [] [] by rw [← hz.out]; rfl]; exact HL2.out, hJ⟩
      case measure =>
        refine Nat.lt_of_le_of_lt (Nat.le_of_eq (congrArg (T.length - ·) (posOf_eq hJ.p))) ?_
        rw [posOf_eq HI.out.p]
        have h1 := hp6.hi
        have h2 := HM.out
        omega

set_option maxRecDepth 100000 in
set_option maxHeartbeats 4000000 in
theorem prod_step {n : Nat} (H : ∀ m, m ≤ n → NodeOk pb A c T fin 75 Lang.sign m) : NodeOk pb A c T fin 73 Lang.prod (n + 1) := by
  intro deep s W r hdp hr hp
  have hr' : binN (Lang.sign (lang T fin n)) (Lang.prodL (lang T fin n)) deep s = some r := hr
  unfold binN at hr'
  obtain ⟨q, hq, hl⟩ := bind_inv hr'
  have hlen := hp.len
  have hpb := hp.obj.lt
  have HSUB : Hid (∀ V, PAt pb A c T fin s V → Calls Try.prog 75 #[.pointer (some ⟨pb, 0, none⟩), .int .i64 (deep : Int)] V (NEnd pb A c T fin V q)) := fun V hV => H n (Nat.le_refl _) deep s V q (by omega) hq hV
  have HIT := Lib.hid H
  have HL := Lib.hid hl
  have HPL : Hid (∀ V s, PAt pb A c T fin s V → Calls Try.prog 20 #[.pointer (some ⟨pb, 0, none⟩)] V fun e w' => e = .returned (.int .i64 (placeP T fin s)) ∧ Below V.heap.size V w') := fun V s hV => place_any hV
  have HOP : Hid (∀ V s, PAt pb A c T fin s V → Calls Try.prog 69 #[.pointer (some ⟨pb, 0, none⟩), .slice (some ⟨V.heap.size, 0, none⟩) 3 3] (V.alloc (.cells #[.string ⟨#[42]⟩, .string ⟨#[100, 105, 118]⟩, .string ⟨#[114, 101, 109]⟩] 9)) fun r w' => r = .returned (.string ⟨((opP T sProd s).getD []).toArray⟩) ∧ PAt pb A c T fin (opS T sProd s) w' ∧ PFr pb V w') := fun V s hV => op_made hV sProd rfl (by simp [sProd])
  have HST : Hid (ZBx (W.alloc (.cells #[.int .i64 0, .int .i64 0, .string ⟨#[]⟩, .int .i64 0, .slice none 0 0, .slice none 0 0, .slice none 0 0] 26)) W.heap.size ∧ PAt pb A c T fin s (W.alloc (.cells #[.int .i64 0, .int .i64 0, .string ⟨#[]⟩, .int .i64 0, .slice none 0 0, .slice none 0 0, .slice none 0 0] 26)) ∧ Below W.heap.size W (W.alloc (.cells #[.int .i64 0, .int .i64 0, .string ⟨#[]⟩, .int .i64 0, .slice none 0 0, .slice none 0 0, .slice none 0 0] 26))) := ⟨Blk.new _ _ _, hp.keep (below_alloc _ _), below_alloc _ _⟩
  clear hr hr' hq hl H hp
  go_enter Try.func73, Try.ntmps73
  go_upto_region 1 with (fail)
  refine wp_world (fun V => ZBx V W.heap.size ∧ PAt pb A c T fin s V ∧ Below W.heap.size W V) HST.out ?_
  rintro V0 ⟨hz, hp0, hb0⟩
  clear HST
  go_upto_region 2 with (go_at_call 75; refine (HSUB.out _ hp0).mono ?_; rintro e V1 ⟨x, hx, rfl, hok, hp1, hf1⟩; replace hx := Lib.hid hx)
  have HI := Lib.hid (BinI.start (Fr.of_below hb0 _) hz hpb hok hp1 hf1)
  obtain ⟨g, hg⟩ : ∃ g, V1.heap.size = g := ⟨_, rfl⟩
  rw [hg] at HI ⊢
  refine wp_world (fun V => BinI pb A c T fin W g x q.2 V) HI.out ?_
  have HL2 : Hid (Lang.prodL (lang T fin n) deep x.t q.2 = some r) := by rw [hx.out]; exact HL.out
  clear HI hg hp1 hf1 hok hx HSUB hz hp0 hb0 HL V1 V0
  intro V2 hI
  go_loopw [6, 7] (fun _ _ wx => ∃ (m : Nat) (x : EN) (s' : PS), m ≤ n ∧ Lang.prodL (lang T fin m) deep x.t s' = some r ∧ BinI pb A c T fin W g x s' wx) (fun _ _ wx => T.length - posOf pb wx)
  case atStart => exact ⟨n, x, q.2, Nat.le_refl _, HL2.out, hI⟩
  case round =>
    clear hI V2 HL2
    obtain ⟨m, y, s', hm, hl, hI⟩ := hrel
    obtain _ | m := m
    · exact absurd hl (by simp [lang, Lang.none_])
    have hl' : binLN T fin sProd (Lang.sign (lang T fin m)) (Lang.prodL (lang T fin m)) deep y.t s' = some r := hl
    unfold binLN at hl'
    have HP2 := Lib.hid (HPL.out wr s' hI.p)
    obtain ⟨pl, hpl⟩ : ∃ pl, placeP T fin s' = pl := ⟨_, rfl⟩
    rw [hpl] at HP2 hl'
    have HI := Lib.hid hI
    cases hb : opP T sProd s' with
    | none =>
      rw [hb] at hl'
      have hre : (y.t, s') = r := Option.some.inj hl'
      have HT2 : Hid (∀ V, PAt pb A c T fin s' V → Calls Try.prog 69 #[.pointer (some ⟨pb, 0, none⟩), .slice (some ⟨V.heap.size, 0, none⟩) 3 3] (V.alloc (.cells #[.string ⟨#[42]⟩, .string ⟨#[100, 105, 118]⟩, .string ⟨#[114, 101, 109]⟩] 9)) fun r w' => r = .returned (.string ⟨#[]⟩) ∧ PAt pb A c T fin s' w' ∧ PFr pb V w') := fun V hV => by
        have := HOP.out V s' hV
        rw [hb, opS_none hb] at this
        exact this
      clear hl' hb hl hpl
      subst hre
      go_upto_region 5 with (first
        | (go_at_call 20; refine HP2.out.mono ?_; rintro e V3 ⟨rfl, hb3⟩)
        | (go_at_call 69; refine (HT2.out _ (HI.out.p.keep hb3)).mono ?_; rintro e V4 ⟨rfl, hp4, hf4⟩))
      refine wp_world (fun V => BinI pb A c T fin W g y s' V) ((HI.out.keep hb3).act hp4 hf4) ?_
      clear hp4 hf4 hb3 HI hI HP2 HT2
      intro V5 hI5
      obtain ⟨a0, a1, a2, a3, a4, a5, a6⟩ := hI5.a.cells
      obtain ⟨z0, z1, z2, z3, z4, z5, z6, f0, f1, f2, f3, f4, f5, f6⟩ := zbx_facts hI5.res
      go_wp2
      refine q_bp_world (fun V => NBx V W.heap.size y ∧ Fr (fun k => k = W.heap.size) V5 V) ⟨put7_blk hI5.res _ _ _ _ _ _ _, put7_fr _ _ _ _ _ _ _ _ _⟩ ?_
      rintro V6 ⟨hB6, hF6⟩
      obtain ⟨x0, x1, x2, x3, x4, x5, x6⟩ := hB6.cells
      obtain ⟨e1, e2, e3⟩ := hI5.fin_ hF6
      exact bodyPost_ret (v := .agg #[.int .i64 y.t.kind, .int .i64 y.t.int, .string ⟨y.t.name.toArray⟩, .int .i64 y.t.at_, .slice y.A y.t.kids.length y.c, .slice y.B y.t.clauses.length y.d, .slice y.C y.t.body.length y.e]) (by simp [results, Try.results73, go_sem, x0, x1, x2, x3, x4, x5, x6]) rfl ⟨y, rfl, rfl, e1, e2, e3⟩
    | some w =>
      rw [hb] at hl'
      obtain ⟨q2, hq2, hl2⟩ := bind_inv hl'
      have HS2 : Hid (∀ V, PAt pb A c T fin (nextP s') V → Calls Try.prog 75 #[.pointer (some ⟨pb, 0, none⟩), .int .i64 (deep : Int)] V (NEnd pb A c T fin V q2)) := fun V hV => HIT.out m (by omega) deep _ V q2 (by omega) hq2 hV
      have hlt' := (isP_lt (opP_is hb)).2
      have HM : Hid (s'.i < q2.2.i) := by
        have := ((lang_mono T fin m).sign _ _ _ hq2).i
        simp only [nextP] at this
        exact this
      have HL2 := Lib.hid hl2
      have HT2 : Hid (∀ V, PAt pb A c T fin s' V → Calls Try.prog 69 #[.pointer (some ⟨pb, 0, none⟩), .slice (some ⟨V.heap.size, 0, none⟩) 3 3] (V.alloc (.cells #[.string ⟨#[42]⟩, .string ⟨#[100, 105, 118]⟩, .string ⟨#[114, 101, 109]⟩] 9)) fun r w' => r = .returned (.string ⟨w.toArray⟩) ∧ PAt pb A c T fin (nextP s') w' ∧ PFr pb V w') := fun V hV => by
        have := HOP.out V s' hV
        rw [hb, opS_some hb] at this
        exact this
      have hne : (w == ([] : List UInt8)) = false := by
        have h9 : ∀ v ∈ sProd, v ≠ [] := by simp [sProd]
        have := h9 w (List.mem_of_find?_eq_some hb)
        cases w with
        | nil => exact absurd rfl this
        | cons a b => rfl
      clear hl' hb hl hpl hq2 hl2 hlt'
      go_upto_region 6 with (first
        | (go_at_call 20; refine HP2.out.mono ?_; rintro e V3 ⟨rfl, hb3⟩)
        | (go_at_call 69; refine (HT2.out _ (HI.out.p.keep hb3)).mono ?_; rintro e V4 ⟨rfl, hp4, hf4⟩))
      refine wp_world (fun V => BinI pb A c T fin W g y (nextP s') V) ((HI.out.keep hb3).act hp4 hf4) ?_
      clear hp4 hf4 hb3 hI HP2 HT2
      intro V5 hI5
      have HI5 := Lib.hid hI5
      have HGP : Hid (¬ g = pb) := by have := hI5.g; have := hI5.pb; show ¬ g = pb; omega
      refine wp_region_W 8 (fun X => NBx X g y) (by kernel_rfl) ?_ (fun hS0 => ?_)
      · exact hI5.a
      clear hI5
      (refine wpAnyW_take (i := 0) (v := ?_) rfl (by kernel_rfl) (by kernel_rfl) (by kernel_rfl) (by kernel_rfl) (fun _ _ _ h => h) (Or.inl ⟨by kernel_rfl, ?_⟩) (by assumption) ?_; rotate_left; focus (intro V9 hS9; go_simp; (try (with_reducible rfl)); done))
      try simp only [Act.put, List.getElem_toArray, List.getElem_cons_zero, List.setIfInBounds_toArray, List.set_cons_succ, List.set_cons_zero]
      (refine wpAnyW_take (i := 1) (v := ?_) rfl (by kernel_rfl) (by kernel_rfl) (by kernel_rfl) (by kernel_rfl) (fun _ _ _ h => h) (Or.inl ⟨by kernel_rfl, ?_⟩) (by assumption) ?_; rotate_left; focus (intro V9 hS9; go_simp; (try (with_reducible rfl)); done))
      try simp only [Act.put, List.getElem_toArray, List.getElem_cons_succ, List.getElem_cons_zero, List.setIfInBounds_toArray, List.set_cons_succ, List.set_cons_zero]
      (refine wpAnyW_take (i := 2) (v := ?_) rfl (by kernel_rfl) (by kernel_rfl) (by kernel_rfl) (by kernel_rfl) (fun _ _ _ h => h) (Or.inl ⟨by kernel_rfl, ?_⟩) (by assumption) ?_; rotate_left; focus (intro V9 hS9; obtain ⟨a0, a1, a2, a3, a4, a5, a6⟩ := NBx.cells hS9; go_simp; (try (with_reducible rfl)); done))
      try simp only [Act.put, List.getElem_toArray, List.getElem_cons_succ, List.getElem_cons_zero, List.setIfInBounds_toArray, List.set_cons_succ, List.set_cons_zero]
      (refine wpAnyW_take (i := 3) (v := ?_) rfl (by kernel_rfl) (by kernel_rfl) (by kernel_rfl) (by kernel_rfl) (fun _ _ _ h => h) (Or.inl ⟨by kernel_rfl, ?_⟩) (by assumption) ?_; rotate_left; focus (intro V9 hS9; go_simp; (try (with_reducible rfl)); done))
      try simp only [Act.put, List.getElem_toArray, List.getElem_cons_succ, List.getElem_cons_zero, List.setIfInBounds_toArray, List.set_cons_succ, List.set_cons_zero]
      (refine wpAnyW_take (i := 4) (v := ?_) rfl (by kernel_rfl) (by kernel_rfl) (by kernel_rfl) (by kernel_rfl) (fun _ _ _ h => h) (Or.inl ⟨by kernel_rfl, ?_⟩) (by assumption) ?_; rotate_left; focus (intro V9 hS9; go_simp; (try (with_reducible rfl)); done))
      try simp only [Act.put, List.getElem_toArray, List.getElem_cons_succ, List.getElem_cons_zero, List.setIfInBounds_toArray, List.set_cons_succ, List.set_cons_zero]
      refine wpAnyW_ready (rs := [5]) (by kernel_rfl) (by simp) ?_
      refine AllReadyW.cons rfl (fun K hK => ?_) AllReadyW.nil
      go_simp
      refine (HS2.out _ (HI5.out.p.keep (below_drewN (Below.refl _ _) 1))).mono ?_
      rintro e V6 ⟨z, hz, rfl, hok, hp6, hf6⟩
      replace hz := Lib.hid hz
      have hB6 : NBx V6 g y := hf6.blk (show NBx V5.drew g y from HI5.out.a) HGP.out
      refine hK.out _ _ hB6 (fun _ => ?_)
      clear hK K
      try simp only [Act.put, List.getElem_toArray, List.getElem_cons_succ, List.getElem_cons_zero, List.setIfInBounds_toArray, List.set_cons_succ, List.set_cons_zero]
      refine wpAnyW_ready (rs := [6]) (by kernel_rfl) (by simp) ?_
      refine AllReadyW.cons rfl (fun K hK => ?_) AllReadyW.nil
      go_simp
      refine hK.out _ _ (hB6.alloc _) (fun _ => ?_)
      clear hK K
      try simp only [Act.put, List.getElem_toArray, List.getElem_cons_succ, List.getElem_cons_zero, List.setIfInBounds_toArray, List.set_cons_succ, List.set_cons_zero]
      (refine wpAnyW_take (i := 7) (v := ?_) rfl (by kernel_rfl) (by kernel_rfl) (by kernel_rfl) (by kernel_rfl) (fun _ _ _ h => h) (Or.inl ⟨by kernel_rfl, ?_⟩) (by assumption) ?_; rotate_left; focus (intro V9 hS9; go_simp; (try (with_reducible rfl)); done))
      try simp only [Act.put, List.getElem_toArray, List.getElem_cons_succ, List.getElem_cons_zero, List.setIfInBounds_toArray, List.set_cons_succ, List.set_cons_zero]
      refine wpAnyW_ready (rs := [8]) (by kernel_rfl) (by simp) ?_
      refine AllReadyW.consE rfl (by kernel_rfl) (fun K hK => ?_) AllReadyW.nil
      obtain ⟨a0, a1, a2, a3, a4, a5, a6, f0, f1, f2, f3, f4, f5, f6⟩ := nbx_facts hB6
      have hlt6 := hB6.lt
      go_simp
      refine hK.out _ _ ?_
      clear hK K
      refine wpAnyW_done (by kernel_rfl) ?_ _
      have hJ := HI5.out.join (V := V5) (V' := V6) (y := z) (s' := q2.2) (w := w) (at_ := pl) hok hp6 ⟨hf6.os, hf6.tape, hf6.output, hf6.size, hf6.block⟩ rfl ((put7_fr V6 g _ _ _ _ _ _ _).alloc2 (put7_size V6 g _ _ _ _ _ _ _) _) ((put7_blk hB6 _ _ _ _ _ _ _).alloc _)
      go_wp2
      go_roundw
      case rel => exact ⟨m, _, q2.2, by omega, by rw [show (mkN 9 w pl [y.t, z.t] V6.heap.size 2).t = .mk 9 0 w pl [y.t, q2.1] [] [] by rw [← hz.out]; rfl]; exact HL2.out, hJ⟩
      case measure =>
        refine Nat.lt_of_le_of_lt (Nat.le_of_eq (congrArg (T.length - ·) (posOf_eq hJ.p))) ?_
        rw [posOf_eq HI.out.p]
        have h1 := hp6.hi
        have h2 := HM.out
        omega

end
end
section
open Go.RowKit
set_option linter.unusedVariables false
section
variable {pb : Nat} {A : Option Addr} {c : Nat} {T : List Tok} {fin : Nat} {W : World}
theorem ne_of_op {l : List (List UInt8)} {w : List UInt8} {s : PS} (h : opP T l s = some w) (hl : ∀ v ∈ l, v ≠ []) : (w == ([] : List UInt8)) = false := by
  have := hl w (List.mem_of_find?_eq_some h)
  cases w with
  | nil => exact absurd rfl this
  | cons a b => rfl
/-- The result's box, and nothing else. -/
structure ZI (pb : Nat) (A : Option Addr) (c : Nat) (T : List Tok) (fin : Nat) (W : World) (s : PS) (V : World) : Prop where
  p : PAt pb A c T fin s V
  fr : PFr pb W V
  res : ZBx V W.heap.size
  pb : pb < W.heap.size
theorem ZI.start {s : PS} (hp : PAt pb A c T fin s W) : ZI pb A c T fin W s (W.alloc (.cells #[.int .i64 0, .int .i64 0, .string ⟨#[]⟩, .int .i64 0, .slice none 0 0, .slice none 0 0, .slice none 0 0] 26)) := ⟨hp.keep (below_alloc _ _), Fr.alloc _ _ _, Blk.new _ _ _, hp.obj.lt⟩
theorem ZI.keep {s : PS} {V V' : World} (h : ZI pb A c T fin W s V) (hb : Below V.heap.size V V') : ZI pb A c T fin W s V' := ⟨h.p.keep hb, h.fr.same (Fr.of_below hb _), h.res.keep hb, h.pb⟩
theorem ZI.act {s s' : PS} {V V' : World} (h : ZI pb A c T fin W s V) (hp : PAt pb A c T fin s' V') (hf : PFr pb V V') : ZI pb A c T fin W s' V' := ⟨hp, h.fr.same hf, hf.blk h.res (by have := h.pb; show ¬ W.heap.size = pb; omega), h.pb⟩
theorem ZI.lt {s : PS} {V : World} (h : ZI pb A c T fin W s V) : W.heap.size < V.heap.size := h.res.lt
/-- A node is given: it is stored in the result's box. -/
theorem ZI.give {s : PS} {x : EN} {V V' : World} (h : ZI pb A c T fin W s V) (hx : x.Ok (fun k => k ≤ W.heap.size) V) (hF : Fr (fun k => k = W.heap.size) V V') : x.Ok (fun k => k < W.heap.size) V' ∧ PAt pb A c T fin s V' ∧ PFr pb W V' := by
  have h2 := h.pb
  exact ⟨hx.move (.of_fr hF (fun k hk => by have h9 : k = W.heap.size := hk; show k ≤ W.heap.size; omega) fun k _ h => by have h9 : k < W.heap.size := h; show k ≤ W.heap.size; omega), h.p.far hF (by show ¬ pb = W.heap.size; omega) (fun b o e => by have := h.p.apart b o e; show ¬ b = W.heap.size; omega), h.fr.trans hF (fun k hk e => by have e' : k = W.heap.size := e; omega)⟩
/-- What was given behind a world with the result's box is apart from that box. -/
theorem ok_le {x : EN} {V V' : World} (h : x.Ok (fun k => k < V.heap.size) V') (hlt : W.heap.size < V.heap.size) : x.Ok (fun k => k ≤ W.heap.size) V' := h.move (.sub_ fun k _ h => by have h9 : k ≤ W.heap.size := h; show k < V.heap.size; omega)
/-- A node of one. -/
theorem one_le {x : EN} {V : World} (hx : x.Ok (fun k => k ≤ W.heap.size) V) (hlt : W.heap.size < V.heap.size) (k : Int) (w : List UInt8) (at_ : Int) {cs : Array Value} (hcs : cs = (enL [x]).toArray) : (mkN k w at_ [x.t] V.heap.size 1).Ok (fun k => k ≤ W.heap.size) (V.alloc (.cells cs 26)) := mkN_ok (one_ok hx (by show ¬ V.heap.size ≤ W.heap.size; omega) hcs)
theorem two_le {x y : EN} {V : World} (hx : x.Ok (fun k => k ≤ W.heap.size) V) (hy : y.Ok (fun k => k ≤ W.heap.size) V) (hlt : W.heap.size < V.heap.size) (k : Int) (w : List UInt8) (at_ : Int) {cs : Array Value} (hcs : cs = (enL [x, y]).toArray) : (mkN k w at_ [x.t, y.t] V.heap.size 2).Ok (fun k => k ≤ W.heap.size) (V.alloc (.cells cs 26)) := mkN_ok (pair_ok hx hy (by show ¬ V.heap.size ≤ W.heap.size; omega) hcs)
theorem BinI.zi {g : Nat} {x : EN} {s : PS} {V : World} (h : BinI pb A c T fin W g x s V) : ZI pb A c T fin W s V := ⟨h.p, h.fr, h.res, h.pb⟩
theorem BinI.ok_le {g : Nat} {x : EN} {s : PS} {V : World} (h : BinI pb A c T fin W g x s V) : x.Ok (fun k => k ≤ W.heap.size) V := h.ok.move (.sub_ fun k _ h => .inl h)
/-- The rest of a call that has given its node: the result's box is read. -/
theorem fr_le {V V' : World} {x : EN} {F : Nat → Prop} (h : x.Ok (fun k => k ≤ W.heap.size) V) (hf : Fr F V V') (hF : ∀ k, F k → k ≤ W.heap.size) : x.Ok (fun k => k ≤ W.heap.size) V' := h.move (.of_fr hf hF fun _ _ h => h)
/-- A node of two is given. -/
theorem BinI.give {g : Nat} {x y : EN} {s s' : PS} {V V' : World} (h : BinI pb A c T fin W g x s V) (hy : y.Ok (fun k => k < V.heap.size) V') (hp : PAt pb A c T fin s' V') (hf : PFr pb V V') {k : Int} {w : List UInt8} {at_ : Int} {cs : Array Value} (hcs : cs = (enL [x, y]).toArray) {V'' : World} (hF : Fr (fun k => k = W.heap.size) (V'.alloc (.cells cs 26)) V'') :
    (mkN k w at_ [x.t, y.t] V'.heap.size 2).Ok (fun k => k < W.heap.size) V'' ∧ PAt pb A c T fin s' V'' ∧ PFr pb W V'' := by
  have h1 := h.g
  have h2 := h.pb
  have h3 := (h.act hp hf).a.lt
  have h4 := h.a.lt
  have h5 := hf.size
  have hA := (h.act hp hf).keep (below_alloc V' (.cells cs 26))
  have hpr := pair_ok (S := fun k => k ≤ W.heap.size) ((h.act hp hf).ok.move (.sub_ fun k _ h => .inl h)) (hy.move (.sub_ fun k hk h => by have h : k ≤ W.heap.size := h; show k < V.heap.size; omega)) (by show ¬ V'.heap.size ≤ W.heap.size; omega) hcs
  refine ⟨(mkN_ok hpr).move (.of_fr hF (fun k hk => by have h9 : k = W.heap.size := hk; show k ≤ W.heap.size; omega) fun k _ h => by have h9 : k < W.heap.size := h; show k ≤ W.heap.size; omega), hA.p.far hF (by show ¬ pb = W.heap.size; omega) ?_, hA.fr.trans hF (fun k hk e => by have e' : k = W.heap.size := e; omega)⟩
  intro b o hAe
  have := hp.apart b o hAe
  show ¬ b = W.heap.size
  omega

set_option maxRecDepth 100000 in
set_option maxHeartbeats 4000000 in
theorem rel_step {n : Nat} (H : ∀ m, m ≤ n → NodeOk pb A c T fin 68 Lang.sum m) : NodeOk pb A c T fin 57 Lang.rel (n + 1) := by
  intro deep s W r hdp hr hp
  have hr' : relN T fin (lang T fin n) deep s = some r := hr
  unfold relN at hr'
  obtain ⟨q, hq, hl⟩ := bind_inv hr'
  have hlen := hp.len
  have hpb := hp.obj.lt
  have HSUB : Hid (∀ V, PAt pb A c T fin s V → Calls Try.prog 68 #[.pointer (some ⟨pb, 0, none⟩), .int .i64 (deep : Int)] V (NEnd pb A c T fin V q)) := fun V hV => H n (Nat.le_refl _) deep s V q (by omega) hq hV
  have HPL : Hid (∀ V s, PAt pb A c T fin s V → Calls Try.prog 20 #[.pointer (some ⟨pb, 0, none⟩)] V fun e w' => e = .returned (.int .i64 (placeP T fin s)) ∧ Below V.heap.size V w') := fun V s hV => place_any hV
  have HOP : Hid (∀ V s, PAt pb A c T fin s V → Calls Try.prog 69 #[.pointer (some ⟨pb, 0, none⟩), .slice (some ⟨V.heap.size, 0, none⟩) 6 6] (V.alloc (.cells #[.string ⟨#[61, 61]⟩, .string ⟨#[47, 61]⟩, .string ⟨#[60]⟩, .string ⟨#[62]⟩, .string ⟨#[61, 60]⟩, .string ⟨#[62, 61]⟩] 9)) fun r w' => r = .returned (.string ⟨((opP T sRel s).getD []).toArray⟩) ∧ PAt pb A c T fin (opS T sRel s) w' ∧ PFr pb V w') := fun V s hV => op_made hV sRel rfl (by simp [sRel])
  have HST : Hid (ZBx (W.alloc (.cells #[.int .i64 0, .int .i64 0, .string ⟨#[]⟩, .int .i64 0, .slice none 0 0, .slice none 0 0, .slice none 0 0] 26)) W.heap.size ∧ PAt pb A c T fin s (W.alloc (.cells #[.int .i64 0, .int .i64 0, .string ⟨#[]⟩, .int .i64 0, .slice none 0 0, .slice none 0 0, .slice none 0 0] 26)) ∧ PFr pb W (W.alloc (.cells #[.int .i64 0, .int .i64 0, .string ⟨#[]⟩, .int .i64 0, .slice none 0 0, .slice none 0 0, .slice none 0 0] 26))) := ⟨Blk.new _ _ _, hp.keep (below_alloc _ _), Fr.alloc _ _ _⟩
  have HH := Lib.hid H
  have HLL := Lib.hid hl
  clear hr hr' hq hl H hp
  go_enter Try.func57, Try.ntmps57
  go_upto_region 1 with (fail)
  refine wp_world (fun V => ZBx V W.heap.size ∧ PAt pb A c T fin s V ∧ PFr pb W V) HST.out ?_
  rintro V0 ⟨hz, hp0, hb0⟩
  clear HST
  go_upto_region 2 with (go_at_call 68; refine (HSUB.out _ hp0).mono ?_; rintro e V1 ⟨x, hx, rfl, hok, hp1, hf1⟩; replace hx := Lib.hid hx)
  have HI := Lib.hid (BinI.start hb0 hz hpb hok hp1 hf1)
  obtain ⟨g, hg⟩ : ∃ g, V1.heap.size = g := ⟨_, rfl⟩
  rw [hg] at HI ⊢
  refine wp_world (fun V => BinI pb A c T fin W g x q.2 V) HI.out ?_
  clear HI hg hp1 hf1 hok HSUB hz hp0 hb0 V1 V0
  intro V2 hI
  have HP2 := Lib.hid (HPL.out V2 q.2 hI.p)
  obtain ⟨pl, hpl⟩ : ∃ pl, placeP T fin q.2 = pl := ⟨_, rfl⟩
  rw [hpl] at HP2 HLL
  have HI := Lib.hid hI
  clear hpl hI
  cases hb : opP T sRel q.2 with
  | none =>
    have hl' := HLL.out
    rw [hb] at hl'
    have hre : q = r := Option.some.inj hl'
    have HT2 : Hid (∀ V, PAt pb A c T fin q.2 V → Calls Try.prog 69 #[.pointer (some ⟨pb, 0, none⟩), .slice (some ⟨V.heap.size, 0, none⟩) 6 6] (V.alloc (.cells #[.string ⟨#[61, 61]⟩, .string ⟨#[47, 61]⟩, .string ⟨#[60]⟩, .string ⟨#[62]⟩, .string ⟨#[61, 60]⟩, .string ⟨#[62, 61]⟩] 9)) fun r w' => r = .returned (.string ⟨#[]⟩) ∧ PAt pb A c T fin q.2 w' ∧ PFr pb V w') := fun V hV => by
      have := HOP.out V q.2 hV
      rw [hb, opS_none hb] at this
      exact this
    clear hl' hb HLL
    subst hre
    go_upto_region 5 with (first
      | (go_at_call 20; refine HP2.out.mono ?_; rintro e V3 ⟨rfl, hb3⟩)
      | (go_at_call 69; refine (HT2.out _ (HI.out.p.keep hb3)).mono ?_; rintro e V4 ⟨rfl, hp4, hf4⟩))
    refine wp_world (fun V => BinI pb A c T fin W g x q.2 V) ((HI.out.keep hb3).act hp4 hf4) ?_
    clear hp4 hf4 hb3 HI HP2 HT2
    intro V5 hI5
    obtain ⟨a0, a1, a2, a3, a4, a5, a6⟩ := hI5.a.cells
    obtain ⟨z0, z1, z2, z3, z4, z5, z6, f0, f1, f2, f3, f4, f5, f6⟩ := zbx_facts hI5.res
    go_wp2
    refine q_bp_world (fun V => NBx V W.heap.size x ∧ Fr (fun k => k = W.heap.size) V5 V) ⟨put7_blk hI5.res _ _ _ _ _ _ _, put7_fr _ _ _ _ _ _ _ _ _⟩ ?_
    rintro V6 ⟨hB6, hF6⟩
    obtain ⟨x0, x1, x2, x3, x4, x5, x6⟩ := hB6.cells
    obtain ⟨e1, e2, e3⟩ := hI5.fin_ hF6
    exact bodyPost_ret (v := .agg #[.int .i64 x.t.kind, .int .i64 x.t.int, .string ⟨x.t.name.toArray⟩, .int .i64 x.t.at_, .slice x.A x.t.kids.length x.c, .slice x.B x.t.clauses.length x.d, .slice x.C x.t.body.length x.e]) (by simp [results, Try.results57, go_sem, x0, x1, x2, x3, x4, x5, x6]) rfl ⟨x, hx.out, rfl, e1, e2, e3⟩
  | some w =>
    have hl' := HLL.out
    rw [hb] at hl'
    obtain ⟨q2, hq2, hl2⟩ := bind_inv hl'
    have HS2 : Hid (∀ V, PAt pb A c T fin (nextP q.2) V → Calls Try.prog 68 #[.pointer (some ⟨pb, 0, none⟩), .int .i64 (deep : Int)] V (NEnd pb A c T fin V q2)) := fun V hV => HH.out n (Nat.le_refl _) deep _ V q2 (by omega) hq2 hV
    have HRE := Lib.hid (Option.some.inj hl2)
    have HT2 : Hid (∀ V, PAt pb A c T fin q.2 V → Calls Try.prog 69 #[.pointer (some ⟨pb, 0, none⟩), .slice (some ⟨V.heap.size, 0, none⟩) 6 6] (V.alloc (.cells #[.string ⟨#[61, 61]⟩, .string ⟨#[47, 61]⟩, .string ⟨#[60]⟩, .string ⟨#[62]⟩, .string ⟨#[61, 60]⟩, .string ⟨#[62, 61]⟩] 9)) fun r w' => r = .returned (.string ⟨w.toArray⟩) ∧ PAt pb A c T fin (nextP q.2) w' ∧ PFr pb V w') := fun V hV => by
      have := HOP.out V q.2 hV
      rw [hb, opS_some hb] at this
      exact this
    have hne := ne_of_op hb (by simp [sRel])
    clear hl' hb HLL hq2 hl2
    go_upto_region 6 with (first
      | (go_at_call 20; refine HP2.out.mono ?_; rintro e V3 ⟨rfl, hb3⟩)
      | (go_at_call 69; refine (HT2.out _ (HI.out.p.keep hb3)).mono ?_; rintro e V4 ⟨rfl, hp4, hf4⟩))
    refine wp_world (fun V => BinI pb A c T fin W g x (nextP q.2) V) ((HI.out.keep hb3).act hp4 hf4) ?_
    clear hp4 hf4 hb3 HP2 HT2
    intro V5 hI5
    have HI5 := Lib.hid hI5
    have HGP : Hid (¬ g = pb) := by have := hI5.g; have := hI5.pb; show ¬ g = pb; omega
    refine wp_region_W 8 (fun X => NBx X g x) (by kernel_rfl) ?_ (fun hS0 => ?_)
    · exact hI5.a
    clear hI5
    (refine wpAnyW_take (i := 0) (v := ?_) rfl (by kernel_rfl) (by kernel_rfl) (by kernel_rfl) (by kernel_rfl) (fun _ _ _ h => h) (Or.inl ⟨by kernel_rfl, ?_⟩) (by assumption) ?_; rotate_left; focus (intro V9 hS9; go_simp; (try (with_reducible rfl)); done))
    try simp only [Act.put, List.getElem_toArray, List.getElem_cons_zero, List.setIfInBounds_toArray, List.set_cons_succ, List.set_cons_zero]
    (refine wpAnyW_take (i := 1) (v := ?_) rfl (by kernel_rfl) (by kernel_rfl) (by kernel_rfl) (by kernel_rfl) (fun _ _ _ h => h) (Or.inl ⟨by kernel_rfl, ?_⟩) (by assumption) ?_; rotate_left; focus (intro V9 hS9; go_simp; (try (with_reducible rfl)); done))
    try simp only [Act.put, List.getElem_toArray, List.getElem_cons_succ, List.getElem_cons_zero, List.setIfInBounds_toArray, List.set_cons_succ, List.set_cons_zero]
    (refine wpAnyW_take (i := 2) (v := ?_) rfl (by kernel_rfl) (by kernel_rfl) (by kernel_rfl) (by kernel_rfl) (fun _ _ _ h => h) (Or.inl ⟨by kernel_rfl, ?_⟩) (by assumption) ?_; rotate_left; focus (intro V9 hS9; obtain ⟨a0, a1, a2, a3, a4, a5, a6⟩ := NBx.cells hS9; go_simp; (try (with_reducible rfl)); done))
    try simp only [Act.put, List.getElem_toArray, List.getElem_cons_succ, List.getElem_cons_zero, List.setIfInBounds_toArray, List.set_cons_succ, List.set_cons_zero]
    (refine wpAnyW_take (i := 3) (v := ?_) rfl (by kernel_rfl) (by kernel_rfl) (by kernel_rfl) (by kernel_rfl) (fun _ _ _ h => h) (Or.inl ⟨by kernel_rfl, ?_⟩) (by assumption) ?_; rotate_left; focus (intro V9 hS9; go_simp; (try (with_reducible rfl)); done))
    try simp only [Act.put, List.getElem_toArray, List.getElem_cons_succ, List.getElem_cons_zero, List.setIfInBounds_toArray, List.set_cons_succ, List.set_cons_zero]
    (refine wpAnyW_take (i := 4) (v := ?_) rfl (by kernel_rfl) (by kernel_rfl) (by kernel_rfl) (by kernel_rfl) (fun _ _ _ h => h) (Or.inl ⟨by kernel_rfl, ?_⟩) (by assumption) ?_; rotate_left; focus (intro V9 hS9; go_simp; (try (with_reducible rfl)); done))
    try simp only [Act.put, List.getElem_toArray, List.getElem_cons_succ, List.getElem_cons_zero, List.setIfInBounds_toArray, List.set_cons_succ, List.set_cons_zero]
    refine wpAnyW_ready (rs := [5]) (by kernel_rfl) (by simp) ?_
    refine AllReadyW.cons rfl (fun K hK => ?_) AllReadyW.nil
    go_simp
    refine (HS2.out _ (HI5.out.p.keep (below_drewN (Below.refl _ _) 1))).mono ?_
    rintro e V6 ⟨z, hz, rfl, hok, hp6, hf6⟩
    replace hz := Lib.hid hz
    have hB6 : NBx V6 g x := hf6.blk (show NBx V5.drew g x from HI5.out.a) HGP.out
    have hR6 : ZBx V6 W.heap.size := hf6.blk (show ZBx V5.drew W.heap.size from HI5.out.res) (by have := HI5.out.pb; show ¬ W.heap.size = pb; omega)
    refine hK.out _ _ hB6 (fun _ => ?_)
    clear hK K
    try simp only [Act.put, List.getElem_toArray, List.getElem_cons_succ, List.getElem_cons_zero, List.setIfInBounds_toArray, List.set_cons_succ, List.set_cons_zero]
    refine wpAnyW_ready (rs := [6]) (by kernel_rfl) (by simp) ?_
    refine AllReadyW.cons rfl (fun K hK => ?_) AllReadyW.nil
    go_simp
    refine hK.out _ _ (hB6.alloc _) (fun _ => ?_)
    clear hK K
    try simp only [Act.put, List.getElem_toArray, List.getElem_cons_succ, List.getElem_cons_zero, List.setIfInBounds_toArray, List.set_cons_succ, List.set_cons_zero]
    (refine wpAnyW_take (i := 7) (v := ?_) rfl (by kernel_rfl) (by kernel_rfl) (by kernel_rfl) (by kernel_rfl) (fun _ _ _ h => h) (Or.inl ⟨by kernel_rfl, ?_⟩) (by assumption) ?_; rotate_left; focus (intro V9 hS9; go_simp; (try (with_reducible rfl)); done))
    try simp only [Act.put, List.getElem_toArray, List.getElem_cons_succ, List.getElem_cons_zero, List.setIfInBounds_toArray, List.set_cons_succ, List.set_cons_zero]
    refine wpAnyW_ready (rs := [8]) (by kernel_rfl) (by simp) ?_
    refine AllReadyW.consE rfl (by kernel_rfl) (fun K hK => ?_) AllReadyW.nil
    obtain ⟨a0, a1, a2, a3, a4, a5, a6, f0, f1, f2, f3, f4, f5, f6⟩ := zbx_facts hR6
    have hlt6 := hR6.lt
    go_simp
    refine hK.out _ _ ?_
    clear hK K
    refine wpAnyW_done (by kernel_rfl) ?_ _
    have hF9 := (put7_fr V6 W.heap.size (.int .i64 9) (.int .i64 0) (.string ⟨w.toArray⟩) (.int .i64 pl) (.slice (some ⟨V6.heap.size, 0, none⟩) 2 2) (.slice none 0 0) (.slice none 0 0)).alloc2 (put7_size V6 W.heap.size _ _ _ _ _ _ _) (.cells (enL [x, z]).toArray 26)
    have hJ := HI5.out.give (V := V5) (V' := V6) (y := z) (s' := q2.2) (k := 9) (w := w) (at_ := pl) hok hp6 ⟨hf6.os, hf6.tape, hf6.output, hf6.size, hf6.block⟩ rfl hF9
    have HJ : Hid (NBx ((put7 V6 W.heap.size (.int .i64 9) (.int .i64 0) (.string ⟨w.toArray⟩) (.int .i64 pl) (.slice (some ⟨V6.heap.size, 0, none⟩) 2 2) (.slice none 0 0) (.slice none 0 0)).alloc (.cells (enL [x, z]).toArray 26)) W.heap.size (mkN 9 w pl [x.t, z.t] V6.heap.size 2) ∧ _) := ⟨(put7_blk hR6 _ _ _ _ _ _ _).alloc _, hJ⟩
    go_wp2
    refine q_bp_world (fun V => NBx V W.heap.size (mkN 9 w pl [x.t, z.t] V6.heap.size 2) ∧ (mkN 9 w pl [x.t, z.t] V6.heap.size 2).Ok (fun k => k < W.heap.size) V ∧ PAt pb A c T fin q2.2 V ∧ PFr pb W V) HJ.out ?_
    rintro V7 ⟨hB7, e1, e2, e3⟩
    obtain ⟨x0, x1, x2, x3, x4, x5, x6⟩ := hB7.cells
    obtain ⟨y, hy⟩ : ∃ y, mkN 9 w pl [x.t, z.t] V6.heap.size 2 = y := ⟨_, rfl⟩
    have HY : Hid (y.t = r.1 ∧ q2.2 = r.2) := by rw [← hy, ← HRE.out, ← hx.out, ← hz.out]; exact ⟨rfl, rfl⟩
    rw [hy] at x0 x1 x2 x3 x4 x5 x6 e1
    exact bodyPost_ret (v := .agg #[.int .i64 y.t.kind, .int .i64 y.t.int, .string ⟨y.t.name.toArray⟩, .int .i64 y.t.at_, .slice y.A y.t.kids.length y.c, .slice y.B y.t.clauses.length y.d, .slice y.C y.t.body.length y.e]) (by simp [results, Try.results57, go_sem, x0, x1, x2, x3, x4, x5, x6]) rfl ⟨y, HY.out.1, rfl, e1, by rw [← HY.out.2]; exact e2, e3⟩

end
end
end Go.Proofs.Ythhindnjnijglaa
