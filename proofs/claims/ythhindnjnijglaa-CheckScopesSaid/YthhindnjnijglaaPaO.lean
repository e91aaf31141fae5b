/- Layer 11: the walk of prim: an error, no token, a token of a kind. Layer 11: the walk of prim: ( { [. -/
import Derived.Test.YthhindnjnijglaaPaM
namespace Go.Proofs.Ythhindnjnijglaa
section
open Go.RowKit
set_option linter.unusedVariables false

/-- Rows of clauses, nodes and boxes. -/
theorem withAt_eq (t : ND) (a : Int) : t.withAt a = .mk t.kind t.int t.name a t.kids t.clauses t.body := by cases t; rfl
section
variable {pb : Nat} {A : Option Addr} {c : Nat} {T : List Tok} {fin : Nat} {W : World}
/-- The result's box, and a token's. -/
theorem ZI.tok {s : PS} {V : World} (h : ZI pb A c T fin W s V) (t : Tok) : ZI pb A c T fin W s (V.alloc (.cells (tokC t) 80)) := h.keep (below_alloc _ _)
/-- A leaf is given. -/
theorem leaf_ok {S : Nat → Prop} {V : World} (k n : Int) (nm : List UInt8) (a : Int) : EN.Ok S V ⟨.mk k n nm a [] [] [], none, 0, none, 0, none, 0⟩ := ⟨RdN.nil_ _ _ _ (Nat.zero_le _), RdC.nil_ _ _ _ (Nat.zero_le _), RdN.nil_ _ _ _ (Nat.zero_le _)⟩

set_option maxRecDepth 100000 in
set_option maxHeartbeats 8000000 in
theorem prim_err {n : Nat} {deep : Nat} {s : PS} {r : ND × PS} (he : s.e ≠ 0) (hr : primN T fin (lang T fin n) deep s = some r) (hp : PAt pb A c T fin s W) :
    Calls Try.prog 77 #[.pointer (some ⟨pb, 0, none⟩), .int .i64 (deep : Int)] W (NEnd pb A c T fin W r) := by
  unfold primN at hr
  rw [if_pos he] at hr
  have hre := Option.some.inj hr
  have HST := Lib.hid (ZI.start hp)
  have hd : (s.e != 0) = true := by simpa using he
  clear hr he hp
  subst hre
  go_enter Try.func77, Try.ntmps77
  go_upto_region 1 with (fail)
  refine wp_world (fun V => ZI pb A c T fin W s V) HST.out ?_
  clear HST
  intro V hI
  obtain ⟨c0, c1, c2, c3, c4⟩ := hI.p.cells
  obtain ⟨z0, z1, z2, z3, z4, z5, z6, f0, f1, f2, f3, f4, f5, f6⟩ := zbx_facts hI.res
  go_wp2
  have hE := hI.give (leaf_ok 0 0 [] 0) (put7_fr V W.heap.size (.int .i64 0) (.int .i64 0) (.string ⟨#[]⟩) (.int .i64 0) (.slice none 0 0) (.slice none 0 0) (.slice none 0 0))
  refine q_bp_world (fun V => NBx V W.heap.size (⟨.mk 0 0 [] 0 [] [] [], none, 0, none, 0, none, 0⟩ : EN) ∧ (⟨.mk 0 0 [] 0 [] [] [], none, 0, none, 0, none, 0⟩ : EN).Ok (fun k => k < W.heap.size) V ∧ PAt pb A c T fin s V ∧ PFr pb W V) ⟨put7_blk hI.res _ _ _ _ _ _ _, hE⟩ ?_
  rintro V9 ⟨hB9, e1, e2, e3⟩
  obtain ⟨x0, x1, x2, x3, x4, x5, x6⟩ := hB9.cells
  obtain ⟨y9, hy9⟩ : ∃ y9, (⟨.mk 0 0 [] 0 [] [] [], none, 0, none, 0, none, 0⟩ : EN) = y9 := ⟨_, rfl⟩
  have HY9 : Hid (y9.t = ND.zero ∧ s = s) := by rw [← hy9]; exact ⟨rfl, rfl⟩
  rw [hy9] at x0 x1 x2 x3 x4 x5 x6 e1
  exact bodyPost_ret (v := .agg #[.int .i64 y9.t.kind, .int .i64 y9.t.int, .string ⟨y9.t.name.toArray⟩, .int .i64 y9.t.at_, .slice y9.A y9.t.kids.length y9.c, .slice y9.B y9.t.clauses.length y9.d, .slice y9.C y9.t.body.length y9.e]) (by simp [results, Try.results77, go_sem, x0, x1, x2, x3, x4, x5, x6]) rfl ⟨y9, HY9.out.1, rfl, e1, by rw [← HY9.out.2]; exact e2, e3⟩

set_option maxRecDepth 100000 in
set_option maxHeartbeats 8000000 in
theorem prim_end {n : Nat} {deep : Nat} {s : PS} {r : ND × PS} (he : s.e = 0) (hi : T.length ≤ s.i) (hr : primN T fin (lang T fin n) deep s = some r) (hp : PAt pb A c T fin s W) :
    Calls Try.prog 77 #[.pointer (some ⟨pb, 0, none⟩), .int .i64 (deep : Int)] W (NEnd pb A c T fin W r) := by
  unfold primN at hr
  rw [if_neg (by simp [he]), List.getElem?_eq_none hi] at hr
  have hre := Option.some.inj hr
  have HST := Lib.hid (ZI.start hp)
  have hlen := hp.len
  have HPL : Hid (∀ V s, PAt pb A c T fin s V → Calls Try.prog 20 #[.pointer (some ⟨pb, 0, none⟩)] V fun e w' => e = .returned (.int .i64 (placeP T fin s)) ∧ Below V.heap.size V w') := fun V s hV => place_any hV
  have HFL : Hid (∀ V s, PAt pb A c T fin s V → Calls Try.prog 11 #[.pointer (some ⟨pb, 0, none⟩), .int .i64 110] V fun r w' => r = .returned (.tuple #[]) ∧ PAt pb A c T fin (failP T fin 110 s) w' ∧ PFr pb V w') := fun V s hV => pfail_any hV 110
  have hd : decide (T.length ≤ s.i) = true := by simpa using hi
  have HE := Lib.hid he
  clear hr he hp hi
  subst hre
  go_enter Try.func77, Try.ntmps77
  go_upto_region 1 with (fail)
  refine wp_world (fun V => ZI pb A c T fin W s V) HST.out ?_
  clear HST
  intro V0 hI0
  obtain ⟨c0, c1, c2, c3, c4⟩ := hI0.p.cells
  rw [HE.out] at c3
  go_upto_region 4 with (go_at_call 20; refine (HPL.out _ _ hI0.p).mono ?_; rintro e V1 ⟨rfl, hb1⟩)
  refine wp_world (fun V => ZI pb A c T fin W s V) (hI0.keep hb1) ?_
  clear hI0 hb1 c0 c1 c2 c3 c4
  intro V2 hI2
  obtain ⟨c0, c1, c2, c3, c4⟩ := hI2.p.cells
  have HI2 := Lib.hid hI2
  clear hI2
  go_quiet (fail)
  go_upto_region 5 with (fail)
  refine wp_world (fun V => ZI pb A c T fin W s V) (HI2.out.keep (below_drewN (Below.refl _ _) _)) ?_
  clear HI2 c0 c1 c2 c3 c4
  intro V3 hI3
  go_upto_region 6 with (go_at_call 11; refine (HFL.out _ _ hI3.p).mono ?_; rintro e V1 ⟨rfl, hp4, hf4⟩)
  refine wp_world (fun V => ZI pb A c T fin W (failP T fin 110 s) V) (hI3.act hp4 hf4) ?_
  clear hI3 hp4 hf4
  intro V hI
  obtain ⟨z0, z1, z2, z3, z4, z5, z6, f0, f1, f2, f3, f4, f5, f6⟩ := zbx_facts hI.res
  go_wp2
  have hE := hI.give (leaf_ok 0 0 [] 0) (put7_fr V W.heap.size (.int .i64 0) (.int .i64 0) (.string ⟨#[]⟩) (.int .i64 0) (.slice none 0 0) (.slice none 0 0) (.slice none 0 0))
  refine q_bp_world (fun V => NBx V W.heap.size (⟨.mk 0 0 [] 0 [] [] [], none, 0, none, 0, none, 0⟩ : EN) ∧ (⟨.mk 0 0 [] 0 [] [] [], none, 0, none, 0, none, 0⟩ : EN).Ok (fun k => k < W.heap.size) V ∧ PAt pb A c T fin (failP T fin 110 s) V ∧ PFr pb W V) ⟨put7_blk hI.res _ _ _ _ _ _ _, hE⟩ ?_
  rintro V9 ⟨hB9, e1, e2, e3⟩
  obtain ⟨x0, x1, x2, x3, x4, x5, x6⟩ := hB9.cells
  obtain ⟨y9, hy9⟩ : ∃ y9, (⟨.mk 0 0 [] 0 [] [] [], none, 0, none, 0, none, 0⟩ : EN) = y9 := ⟨_, rfl⟩
  have HY9 : Hid (y9.t = ND.zero ∧ (failP T fin 110 s) = (failP T fin 110 s)) := by rw [← hy9]; exact ⟨rfl, rfl⟩
  rw [hy9] at x0 x1 x2 x3 x4 x5 x6 e1
  exact bodyPost_ret (v := .agg #[.int .i64 y9.t.kind, .int .i64 y9.t.int, .string ⟨y9.t.name.toArray⟩, .int .i64 y9.t.at_, .slice y9.A y9.t.kids.length y9.c, .slice y9.B y9.t.clauses.length y9.d, .slice y9.C y9.t.body.length y9.e]) (by simp [results, Try.results77, go_sem, x0, x1, x2, x3, x4, x5, x6]) rfl ⟨y9, HY9.out.1, rfl, e1, by rw [← HY9.out.2]; exact e2, e3⟩

set_option maxRecDepth 100000 in
set_option maxHeartbeats 8000000 in
theorem prim_int {n : Nat} {deep : Nat} {s : PS} {r : ND × PS} {t : Tok} (he : s.e = 0) (ht : T[s.i]? = some t) (hk : t.kind = 1) (hr : primN T fin (lang T fin n) deep s = some r) (hp : PAt pb A c T fin s W) :
    Calls Try.prog 77 #[.pointer (some ⟨pb, 0, none⟩), .int .i64 (deep : Int)] W (NEnd pb A c T fin W r) := by
  unfold primN at hr
  rw [if_neg (by simp [he]), ht] at hr
  simp only [hk] at hr
  have HKD := Lib.hid hk
  clear hk
  have hre : ((.mk 1 t.int [] t.at_ [] [] [], nextP s) : ND × PS) = r := Option.some.inj hr
  have HST := Lib.hid (ZI.start hp)
  have hlen := hp.len
  have HPL : Hid (∀ V, PAt pb A c T fin s V → Calls Try.prog 20 #[.pointer (some ⟨pb, 0, none⟩)] V fun e w' => e = .returned (.int .i64 ((t.at_ : Nat) : Int)) ∧ Below V.heap.size V w') := fun V hV => by
    have h9 : placeP T fin s = ((t.at_ : Nat) : Int) := by unfold placeP; rw [ht]
    rw [← h9]
    exact place_any hV
  obtain ⟨hi, hte⟩ := List.getElem?_eq_some_iff.1 ht
  have HTE := Lib.hid hte
  have hd : decide (T.length ≤ s.i) = false := by simpa using hi
  have HE := Lib.hid he
  clear hr he hp ht hte
  go_enter Try.func77, Try.ntmps77
  go_upto_region 1 with (fail)
  refine wp_world (fun V => ZI pb A c T fin W s V) HST.out ?_
  clear HST
  intro V0 hI0
  obtain ⟨c0, c1, c2, c3, c4⟩ := hI0.p.cells
  rw [HE.out] at c3
  go_upto_region 4 with (go_at_call 20; refine (HPL.out _ hI0.p).mono ?_; rintro e V1 ⟨rfl, hb1⟩)
  refine wp_world (fun V => ZI pb A c T fin W s V) (hI0.keep hb1) ?_
  clear hI0 hb1 c0 c1 c2 c3 c4 HPL
  intro V2 hI2
  obtain ⟨c0, c1, c2, c3, c4⟩ := hI2.p.cells
  have HI2 := Lib.hid hI2
  clear hI2
  go_quiet (fail)
  go_wp2
  refine wp_world (fun V => ZI pb A c T fin W s V) (HI2.out.keep (below_drewN (Below.refl _ _) _)) ?_
  clear HI2 c0 c1 c2 c3 c4
  intro V3 hI3
  obtain ⟨c0, c1, c2, c3, c4⟩ := hI3.p.cells
  have q1 : (0 : Int) ≤ (s.i : Int) := by omega
  have q2 : (s.i : Int) < (T.length : Int) := by omega
  have htk := hI3.p.toks.at_ hi
  rw [HTE.out] at htk
  obtain ⟨b, o, hAe, hlt, t0, t1, t2, t3, t4⟩ := htk
  rw [hAe] at c0
  have HCV : Hid (V3.cell? ⟨pb, 0, none⟩ = some (.slice (some ⟨b, o, none⟩) T.length c) ∧ V3.cell? ⟨pb, 1, none⟩ = some (.int .i64 (s.i : Int)) ∧ pb < V3.heap.size ∧ V3.cell? ⟨b, o + s.i * 5, none⟩ = some (.int .i64 t.kind) ∧ V3.cell? ⟨b, o + s.i * 5 + 1, none⟩ = some (.int .i64 t.int) ∧ V3.cell? ⟨b, o + s.i * 5 + 2, none⟩ = some (.string ⟨t.text.toArray⟩) ∧ V3.cell? ⟨b, o + s.i * 5 + 3, none⟩ = some (.int .i64 ((t.at_ : Nat) : Int)) ∧ V3.cell? ⟨b, o + s.i * 5 + 4, none⟩ = some (.int .i64 ((t.fin : Nat) : Int)) ∧ b < V3.heap.size) := ⟨c0, c1, hI3.p.obj.lt, t0, t1, t2, t3, t4, hlt⟩
  have HI3 := Lib.hid hI3
  have HAE := Lib.hid hAe
  clear hI3 c0 c1 c2 c3 c4 t0 t1 t2 t3 t4 hlt hAe
  refine wp_region_W 11 (fun X => Below V3.heap.size V3 X) (by kernel_rfl) ?_ (fun hS0 => ?_)
  · exact (Below.refl _ _).drew
  (refine wpAnyW_take (i := 0) (v := ?_) rfl (by kernel_rfl) (by kernel_rfl) (by kernel_rfl) (by kernel_rfl) (fun _ _ _ h => h) (Or.inl ⟨by kernel_rfl, ?_⟩) (by assumption) ?_; rotate_left; focus (intro V9 hS9; go_simp; (try (with_reducible rfl)); done))
  try simp only [Act.put, List.getElem_toArray, List.getElem_cons_zero, List.setIfInBounds_toArray, List.set_cons_succ, List.set_cons_zero]
  (refine wpAnyW_take (i := 1) (v := ?_) rfl (by kernel_rfl) (by kernel_rfl) (by kernel_rfl) (by kernel_rfl) (fun _ _ _ h => h) (Or.inl ⟨by kernel_rfl, ?_⟩) (by assumption) ?_; rotate_left; focus (intro V9 hS9; go_simp; (try (with_reducible rfl)); done))
  try simp only [Act.put, List.getElem_toArray, List.getElem_cons_succ, List.getElem_cons_zero, List.setIfInBounds_toArray, List.set_cons_succ, List.set_cons_zero]
  (refine wpAnyW_take (i := 2) (v := ?_) rfl (by kernel_rfl) (by kernel_rfl) (by kernel_rfl) (by kernel_rfl) (fun _ _ _ h => h) (Or.inl ⟨by kernel_rfl, ?_⟩) (by assumption) ?_; rotate_left; focus (intro V9 hS9; go_simp; (try (with_reducible rfl)); done))
  try simp only [Act.put, List.getElem_toArray, List.getElem_cons_succ, List.getElem_cons_zero, List.setIfInBounds_toArray, List.set_cons_succ, List.set_cons_zero]
  (refine wpAnyW_take (i := 3) (v := ?_) rfl (by kernel_rfl) (by kernel_rfl) (by kernel_rfl) (by kernel_rfl) (fun _ _ _ h => h) (Or.inl ⟨by kernel_rfl, ?_⟩) (by assumption) ?_; rotate_left; focus (intro V9 hS9; have c0 := (hS9.cell HCV.out.2.2.1).trans HCV.out.1; go_simp; (try (with_reducible rfl)); done))
  try simp only [Act.put, List.getElem_toArray, List.getElem_cons_succ, List.getElem_cons_zero, List.setIfInBounds_toArray, List.set_cons_succ, List.set_cons_zero]
  (refine wpAnyW_take (i := 4) (v := ?_) rfl (by kernel_rfl) (by kernel_rfl) (by kernel_rfl) (by kernel_rfl) (fun _ _ _ h => h) (Or.inl ⟨by kernel_rfl, ?_⟩) (by assumption) ?_; rotate_left; focus (intro V9 hS9; go_simp; (try (with_reducible rfl)); done))
  try simp only [Act.put, List.getElem_toArray, List.getElem_cons_succ, List.getElem_cons_zero, List.setIfInBounds_toArray, List.set_cons_succ, List.set_cons_zero]
  (refine wpAnyW_take (i := 5) (v := ?_) rfl (by kernel_rfl) (by kernel_rfl) (by kernel_rfl) (by kernel_rfl) (fun _ _ _ h => h) (Or.inl ⟨by kernel_rfl, ?_⟩) (by assumption) ?_; rotate_left; focus (intro V9 hS9; go_simp; (try (with_reducible rfl)); done))
  try simp only [Act.put, List.getElem_toArray, List.getElem_cons_succ, List.getElem_cons_zero, List.setIfInBounds_toArray, List.set_cons_succ, List.set_cons_zero]
  (refine wpAnyW_take (i := 6) (v := ?_) rfl (by kernel_rfl) (by kernel_rfl) (by kernel_rfl) (by kernel_rfl) (fun _ _ _ h => h) (Or.inl ⟨by kernel_rfl, ?_⟩) (by assumption) ?_; rotate_left; focus (intro V9 hS9; go_simp; (try (with_reducible rfl)); done))
  try simp only [Act.put, List.getElem_toArray, List.getElem_cons_succ, List.getElem_cons_zero, List.setIfInBounds_toArray, List.set_cons_succ, List.set_cons_zero]
  (refine wpAnyW_take (i := 7) (v := ?_) rfl (by kernel_rfl) (by kernel_rfl) (by kernel_rfl) (by kernel_rfl) (fun _ _ _ h => h) (Or.inl ⟨by kernel_rfl, ?_⟩) (by assumption) ?_; rotate_left; focus (intro V9 hS9; have c1 := (hS9.cell HCV.out.2.2.1).trans HCV.out.2.1; go_simp; (try (with_reducible rfl)); done))
  try simp only [Act.put, List.getElem_toArray, List.getElem_cons_succ, List.getElem_cons_zero, List.setIfInBounds_toArray, List.set_cons_succ, List.set_cons_zero]
  (refine wpAnyW_take (i := 8) (v := ?_) rfl (by kernel_rfl) (by kernel_rfl) (by kernel_rfl) (by kernel_rfl) (fun _ _ _ h => h) (Or.inl ⟨by kernel_rfl, ?_⟩) (by assumption) ?_; rotate_left; focus (intro V9 hS9; go_simp; (try (with_reducible rfl)); done))
  try simp only [Act.put, List.getElem_toArray, List.getElem_cons_succ, List.getElem_cons_zero, List.setIfInBounds_toArray, List.set_cons_succ, List.set_cons_zero]
  (refine wpAnyW_take (i := 9) (v := ?_) rfl (by kernel_rfl) (by kernel_rfl) (by kernel_rfl) (by kernel_rfl) (fun _ _ _ h => h) (Or.inl ⟨by kernel_rfl, ?_⟩) (by assumption) ?_; rotate_left; focus (intro V9 hS9; obtain ⟨_, _, _, t0, t1, t2, t3, t4, hlt⟩ := HCV.out; have t0 := (hS9.cell hlt).trans t0; have t1 := (hS9.cell hlt).trans t1; have t2 := (hS9.cell hlt).trans t2; have t3 := (hS9.cell hlt).trans t3; have t4 := (hS9.cell hlt).trans t4; go_simp; (try (with_reducible rfl)); done))
  try simp only [Act.put, List.getElem_toArray, List.getElem_cons_succ, List.getElem_cons_zero, List.setIfInBounds_toArray, List.set_cons_succ, List.set_cons_zero]
  refine wpAnyW_ready (rs := [10]) (by kernel_rfl) (by simp) ?_
  refine AllReadyW.cons rfl (fun K hK => ?_) AllReadyW.nil
  go_simp
  refine hK.out _ _ ((Below.refl _ _).drew.alloc (Nat.le_refl _) _) (fun _ => ?_)
  clear hK K
  try simp only [Act.put, List.getElem_toArray, List.getElem_cons_succ, List.getElem_cons_zero, List.setIfInBounds_toArray, List.set_cons_succ, List.set_cons_zero]
  refine wpAnyW_ready (rs := [11]) (by kernel_rfl) (by simp) ?_
  refine AllReadyW.consE rfl (by kernel_rfl) (fun K hK => ?_) AllReadyW.nil
  go_simp
  refine hK.out _ _ ?_
  clear hK K
  refine wpAnyW_done (by kernel_rfl) ?_ _
  go_upto_region 8 with (fail)
  refine wp_world (fun X => Blk X V3.heap.size 80 (tokC t) ∧ ZI pb A c T fin W s X) ?_ ?_
  · exact ⟨(Blk.new V3 _ (tokC t)), (HI3.out.tok t).keep (below_drewN (Below.refl _ _) 1)⟩
  have HGP := Lib.hid HCV.out.2.2.1
  clear HI3 HCV hS0 q1 q2 hd
  obtain ⟨g6, hg6⟩ : ∃ g6, V3.heap.size = g6 := ⟨_, rfl⟩
  rw [hg6] at HGP ⊢
  clear hg6
  rintro V4 ⟨hT4, hI4⟩
  have x0 : V4.cell? ⟨g6, 0, none⟩ = some (.int .i64 t.kind) := hT4.cell 0
  have x1 : V4.cell? ⟨g6, 1, none⟩ = some (.int .i64 t.int) := hT4.cell 1
  have x2 : V4.cell? ⟨g6, 2, none⟩ = some (.string ⟨t.text.toArray⟩) := hT4.cell 2
  rw [HKD.out] at x0
  have q9 : IntKind.i64.wrap ((s.i : Int) + 1) = ((s.i + 1 : Nat) : Int) := by rw [IntKind.wrap_i64]; omega
  obtain ⟨c0, c1, c2, c3, c4⟩ := hI4.p.cells
  have f1 := hI4.p.obj.frozen 1
  go_upto_region 11 with (fail)
  have hst := hI4.p.setI hi rfl
  have hT5 : Blk _ g6 _ _ := hT4.far (p := ⟨pb, 1, none⟩) (by have := HGP.out; show ¬ g6 = pb; omega) (.int .i64 ((s.i + 1 : Nat) : Int))
  refine wp_world (fun X => Blk X g6 80 (tokC t) ∧ ZI pb A c T fin W (nextP s) X) ⟨hT5, hI4.act hst.1 hst.2⟩ ?_
  clear hT5 hst hT4 hI4 x0 x1 x2 c0 c1 c2 c3 c4 f1
  rintro V ⟨hT, hI⟩
  have x1 : V.cell? ⟨g6, 1, none⟩ = some (.int .i64 t.int) := hT.cell 1
  have x2 : V.cell? ⟨g6, 2, none⟩ = some (.string ⟨t.text.toArray⟩) := hT.cell 2
  obtain ⟨z0, z1, z2, z3, z4, z5, z6, f0, f1, f2, f3, f4, f5, f6⟩ := zbx_facts hI.res
  go_wp2
  have hE := hI.give (leaf_ok 1 t.int [] ((t.at_ : Nat) : Int)) (put7_fr V W.heap.size (.int .i64 1) (.int .i64 t.int) (.string ⟨#[]⟩) (.int .i64 ((t.at_ : Nat) : Int)) (.slice none 0 0) (.slice none 0 0) (.slice none 0 0))
  refine q_bp_world (fun V => NBx V W.heap.size (⟨.mk 1 t.int [] ((t.at_ : Nat) : Int) [] [] [], none, 0, none, 0, none, 0⟩ : EN) ∧ (⟨.mk 1 t.int [] ((t.at_ : Nat) : Int) [] [] [], none, 0, none, 0, none, 0⟩ : EN).Ok (fun k => k < W.heap.size) V ∧ PAt pb A c T fin (nextP s) V ∧ PFr pb W V) ⟨put7_blk hI.res _ _ _ _ _ _ _, hE⟩ ?_
  rintro V9 ⟨hB9, e1, e2, e3⟩
  obtain ⟨x0, x1, x2, x3, x4, x5, x6⟩ := hB9.cells
  obtain ⟨y9, hy9⟩ : ∃ y9, (⟨.mk 1 t.int [] ((t.at_ : Nat) : Int) [] [] [], none, 0, none, 0, none, 0⟩ : EN) = y9 := ⟨_, rfl⟩
  have HY9 : Hid (y9.t = r.1 ∧ (nextP s) = r.2) := by rw [← hy9]; exact by rw [← hre]; exact ⟨rfl, rfl⟩
  rw [hy9] at x0 x1 x2 x3 x4 x5 x6 e1
  exact bodyPost_ret (v := .agg #[.int .i64 y9.t.kind, .int .i64 y9.t.int, .string ⟨y9.t.name.toArray⟩, .int .i64 y9.t.at_, .slice y9.A y9.t.kids.length y9.c, .slice y9.B y9.t.clauses.length y9.d, .slice y9.C y9.t.body.length y9.e]) (by simp [results, Try.results77, go_sem, x0, x1, x2, x3, x4, x5, x6]) rfl ⟨y9, HY9.out.1, rfl, e1, by rw [← HY9.out.2]; exact e2, e3⟩

set_option maxRecDepth 100000 in
set_option maxHeartbeats 8000000 in
theorem prim_atom {n : Nat} {deep : Nat} {s : PS} {r : ND × PS} {t : Tok} (he : s.e = 0) (ht : T[s.i]? = some t) (hk : t.kind = 2) (hr : primN T fin (lang T fin n) deep s = some r) (hp : PAt pb A c T fin s W) :
    Calls Try.prog 77 #[.pointer (some ⟨pb, 0, none⟩), .int .i64 (deep : Int)] W (NEnd pb A c T fin W r) := by
  unfold primN at hr
  rw [if_neg (by simp [he]), ht] at hr
  simp only [hk] at hr
  have HKD := Lib.hid hk
  clear hk
  have hre : ((.mk 2 0 t.text t.at_ [] [] [], nextP s) : ND × PS) = r := Option.some.inj hr
  have HST := Lib.hid (ZI.start hp)
  have hlen := hp.len
  have HPL : Hid (∀ V, PAt pb A c T fin s V → Calls Try.prog 20 #[.pointer (some ⟨pb, 0, none⟩)] V fun e w' => e = .returned (.int .i64 ((t.at_ : Nat) : Int)) ∧ Below V.heap.size V w') := fun V hV => by
    have h9 : placeP T fin s = ((t.at_ : Nat) : Int) := by unfold placeP; rw [ht]
    rw [← h9]
    exact place_any hV
  obtain ⟨hi, hte⟩ := List.getElem?_eq_some_iff.1 ht
  have HTE := Lib.hid hte
  have hd : decide (T.length ≤ s.i) = false := by simpa using hi
  have HE := Lib.hid he
  clear hr he hp ht hte
  go_enter Try.func77, Try.ntmps77
  go_upto_region 1 with (fail)
  refine wp_world (fun V => ZI pb A c T fin W s V) HST.out ?_
  clear HST
  intro V0 hI0
  obtain ⟨c0, c1, c2, c3, c4⟩ := hI0.p.cells
  rw [HE.out] at c3
  go_upto_region 4 with (go_at_call 20; refine (HPL.out _ hI0.p).mono ?_; rintro e V1 ⟨rfl, hb1⟩)
  refine wp_world (fun V => ZI pb A c T fin W s V) (hI0.keep hb1) ?_
  clear hI0 hb1 c0 c1 c2 c3 c4 HPL
  intro V2 hI2
  obtain ⟨c0, c1, c2, c3, c4⟩ := hI2.p.cells
  have HI2 := Lib.hid hI2
  clear hI2
  go_quiet (fail)
  go_wp2
  refine wp_world (fun V => ZI pb A c T fin W s V) (HI2.out.keep (below_drewN (Below.refl _ _) _)) ?_
  clear HI2 c0 c1 c2 c3 c4
  intro V3 hI3
  obtain ⟨c0, c1, c2, c3, c4⟩ := hI3.p.cells
  have q1 : (0 : Int) ≤ (s.i : Int) := by omega
  have q2 : (s.i : Int) < (T.length : Int) := by omega
  have htk := hI3.p.toks.at_ hi
  rw [HTE.out] at htk
  obtain ⟨b, o, hAe, hlt, t0, t1, t2, t3, t4⟩ := htk
  rw [hAe] at c0
  have HCV : Hid (V3.cell? ⟨pb, 0, none⟩ = some (.slice (some ⟨b, o, none⟩) T.length c) ∧ V3.cell? ⟨pb, 1, none⟩ = some (.int .i64 (s.i : Int)) ∧ pb < V3.heap.size ∧ V3.cell? ⟨b, o + s.i * 5, none⟩ = some (.int .i64 t.kind) ∧ V3.cell? ⟨b, o + s.i * 5 + 1, none⟩ = some (.int .i64 t.int) ∧ V3.cell? ⟨b, o + s.i * 5 + 2, none⟩ = some (.string ⟨t.text.toArray⟩) ∧ V3.cell? ⟨b, o + s.i * 5 + 3, none⟩ = some (.int .i64 ((t.at_ : Nat) : Int)) ∧ V3.cell? ⟨b, o + s.i * 5 + 4, none⟩ = some (.int .i64 ((t.fin : Nat) : Int)) ∧ b < V3.heap.size) := ⟨c0, c1, hI3.p.obj.lt, t0, t1, t2, t3, t4, hlt⟩
  have HI3 := Lib.hid hI3
  have HAE := Lib.hid hAe
  clear hI3 c0 c1 c2 c3 c4 t0 t1 t2 t3 t4 hlt hAe
  refine wp_region_W 11 (fun X => Below V3.heap.size V3 X) (by kernel_rfl) ?_ (fun hS0 => ?_)
  · exact (Below.refl _ _).drew
  (refine wpAnyW_take (i := 0) (v := ?_) rfl (by kernel_rfl) (by kernel_rfl) (by kernel_rfl) (by kernel_rfl) (fun _ _ _ h => h) (Or.inl ⟨by kernel_rfl, ?_⟩) (by assumption) ?_; rotate_left; focus (intro V9 hS9; go_simp; (try (with_reducible rfl)); done))
  try simp only [Act.put, List.getElem_toArray, List.getElem_cons_zero, List.setIfInBounds_toArray, List.set_cons_succ, List.set_cons_zero]
  (refine wpAnyW_take (i := 1) (v := ?_) rfl (by kernel_rfl) (by kernel_rfl) (by kernel_rfl) (by kernel_rfl) (fun _ _ _ h => h) (Or.inl ⟨by kernel_rfl, ?_⟩) (by assumption) ?_; rotate_left; focus (intro V9 hS9; go_simp; (try (with_reducible rfl)); done))
  try simp only [Act.put, List.getElem_toArray, List.getElem_cons_succ, List.getElem_cons_zero, List.setIfInBounds_toArray, List.set_cons_succ, List.set_cons_zero]
  (refine wpAnyW_take (i := 2) (v := ?_) rfl (by kernel_rfl) (by kernel_rfl) (by kernel_rfl) (by kernel_rfl) (fun _ _ _ h => h) (Or.inl ⟨by kernel_rfl, ?_⟩) (by assumption) ?_; rotate_left; focus (intro V9 hS9; go_simp; (try (with_reducible rfl)); done))
  try simp only [Act.put, List.getElem_toArray, List.getElem_cons_succ, List.getElem_cons_zero, List.setIfInBounds_toArray, List.set_cons_succ, List.set_cons_zero]
  (refine wpAnyW_take (i := 3) (v := ?_) rfl (by kernel_rfl) (by kernel_rfl) (by kernel_rfl) (by kernel_rfl) (fun _ _ _ h => h) (Or.inl ⟨by kernel_rfl, ?_⟩) (by assumption) ?_; rotate_left; focus (intro V9 hS9; have c0 := (hS9.cell HCV.out.2.2.1).trans HCV.out.1; go_simp; (try (with_reducible rfl)); done))
  try simp only [Act.put, List.getElem_toArray, List.getElem_cons_succ, List.getElem_cons_zero, List.setIfInBounds_toArray, List.set_cons_succ, List.set_cons_zero]
  (refine wpAnyW_take (i := 4) (v := ?_) rfl (by kernel_rfl) (by kernel_rfl) (by kernel_rfl) (by kernel_rfl) (fun _ _ _ h => h) (Or.inl ⟨by kernel_rfl, ?_⟩) (by assumption) ?_; rotate_left; focus (intro V9 hS9; go_simp; (try (with_reducible rfl)); done))
  try simp only [Act.put, List.getElem_toArray, List.getElem_cons_succ, List.getElem_cons_zero, List.setIfInBounds_toArray, List.set_cons_succ, List.set_cons_zero]
  (refine wpAnyW_take (i := 5) (v := ?_) rfl (by kernel_rfl) (by kernel_rfl) (by kernel_rfl) (by kernel_rfl) (fun _ _ _ h => h) (Or.inl ⟨by kernel_rfl, ?_⟩) (by assumption) ?_; rotate_left; focus (intro V9 hS9; go_simp; (try (with_reducible rfl)); done))
  try simp only [Act.put, List.getElem_toArray, List.getElem_cons_succ, List.getElem_cons_zero, List.setIfInBounds_toArray, List.set_cons_succ, List.set_cons_zero]
  (refine wpAnyW_take (i := 6) (v := ?_) rfl (by kernel_rfl) (by kernel_rfl) (by kernel_rfl) (by kernel_rfl) (fun _ _ _ h => h) (Or.inl ⟨by kernel_rfl, ?_⟩) (by assumption) ?_; rotate_left; focus (intro V9 hS9; go_simp; (try (with_reducible rfl)); done))
  try simp only [Act.put, List.getElem_toArray, List.getElem_cons_succ, List.getElem_cons_zero, List.setIfInBounds_toArray, List.set_cons_succ, List.set_cons_zero]
  (refine wpAnyW_take (i := 7) (v := ?_) rfl (by kernel_rfl) (by kernel_rfl) (by kernel_rfl) (by kernel_rfl) (fun _ _ _ h => h) (Or.inl ⟨by kernel_rfl, ?_⟩) (by assumption) ?_; rotate_left; focus (intro V9 hS9; have c1 := (hS9.cell HCV.out.2.2.1).trans HCV.out.2.1; go_simp; (try (with_reducible rfl)); done))
  try simp only [Act.put, List.getElem_toArray, List.getElem_cons_succ, List.getElem_cons_zero, List.setIfInBounds_toArray, List.set_cons_succ, List.set_cons_zero]
  (refine wpAnyW_take (i := 8) (v := ?_) rfl (by kernel_rfl) (by kernel_rfl) (by kernel_rfl) (by kernel_rfl) (fun _ _ _ h => h) (Or.inl ⟨by kernel_rfl, ?_⟩) (by assumption) ?_; rotate_left; focus (intro V9 hS9; go_simp; (try (with_reducible rfl)); done))
  try simp only [Act.put, List.getElem_toArray, List.getElem_cons_succ, List.getElem_cons_zero, List.setIfInBounds_toArray, List.set_cons_succ, List.set_cons_zero]
  (refine wpAnyW_take (i := 9) (v := ?_) rfl (by kernel_rfl) (by kernel_rfl) (by kernel_rfl) (by kernel_rfl) (fun _ _ _ h => h) (Or.inl ⟨by kernel_rfl, ?_⟩) (by assumption) ?_; rotate_left; focus (intro V9 hS9; obtain ⟨_, _, _, t0, t1, t2, t3, t4, hlt⟩ := HCV.out; have t0 := (hS9.cell hlt).trans t0; have t1 := (hS9.cell hlt).trans t1; have t2 := (hS9.cell hlt).trans t2; have t3 := (hS9.cell hlt).trans t3; have t4 := (hS9.cell hlt).trans t4; go_simp; (try (with_reducible rfl)); done))
  try simp only [Act.put, List.getElem_toArray, List.getElem_cons_succ, List.getElem_cons_zero, List.setIfInBounds_toArray, List.set_cons_succ, List.set_cons_zero]
  refine wpAnyW_ready (rs := [10]) (by kernel_rfl) (by simp) ?_
  refine AllReadyW.cons rfl (fun K hK => ?_) AllReadyW.nil
  go_simp
  refine hK.out _ _ ((Below.refl _ _).drew.alloc (Nat.le_refl _) _) (fun _ => ?_)
  clear hK K
  try simp only [Act.put, List.getElem_toArray, List.getElem_cons_succ, List.getElem_cons_zero, List.setIfInBounds_toArray, List.set_cons_succ, List.set_cons_zero]
  refine wpAnyW_ready (rs := [11]) (by kernel_rfl) (by simp) ?_
  refine AllReadyW.consE rfl (by kernel_rfl) (fun K hK => ?_) AllReadyW.nil
  go_simp
  refine hK.out _ _ ?_
  clear hK K
  refine wpAnyW_done (by kernel_rfl) ?_ _
  go_upto_region 8 with (fail)
  refine wp_world (fun X => Blk X V3.heap.size 80 (tokC t) ∧ ZI pb A c T fin W s X) ?_ ?_
  · exact ⟨(Blk.new V3 _ (tokC t)), (HI3.out.tok t).keep (below_drewN (Below.refl _ _) 1)⟩
  have HGP := Lib.hid HCV.out.2.2.1
  clear HI3 HCV hS0 q1 q2 hd
  obtain ⟨g6, hg6⟩ : ∃ g6, V3.heap.size = g6 := ⟨_, rfl⟩
  rw [hg6] at HGP ⊢
  clear hg6
  rintro V4 ⟨hT4, hI4⟩
  have x0 : V4.cell? ⟨g6, 0, none⟩ = some (.int .i64 t.kind) := hT4.cell 0
  have x1 : V4.cell? ⟨g6, 1, none⟩ = some (.int .i64 t.int) := hT4.cell 1
  have x2 : V4.cell? ⟨g6, 2, none⟩ = some (.string ⟨t.text.toArray⟩) := hT4.cell 2
  rw [HKD.out] at x0
  have q9 : IntKind.i64.wrap ((s.i : Int) + 1) = ((s.i + 1 : Nat) : Int) := by rw [IntKind.wrap_i64]; omega
  obtain ⟨c0, c1, c2, c3, c4⟩ := hI4.p.cells
  have f1 := hI4.p.obj.frozen 1
  go_upto_region 14 with (fail)
  have hst := hI4.p.setI hi rfl
  have hT5 : Blk _ g6 _ _ := hT4.far (p := ⟨pb, 1, none⟩) (by have := HGP.out; show ¬ g6 = pb; omega) (.int .i64 ((s.i + 1 : Nat) : Int))
  refine wp_world (fun X => Blk X g6 80 (tokC t) ∧ ZI pb A c T fin W (nextP s) X) ⟨hT5, hI4.act hst.1 hst.2⟩ ?_
  clear hT5 hst hT4 hI4 x0 x1 x2 c0 c1 c2 c3 c4 f1
  rintro V ⟨hT, hI⟩
  have x1 : V.cell? ⟨g6, 1, none⟩ = some (.int .i64 t.int) := hT.cell 1
  have x2 : V.cell? ⟨g6, 2, none⟩ = some (.string ⟨t.text.toArray⟩) := hT.cell 2
  obtain ⟨z0, z1, z2, z3, z4, z5, z6, f0, f1, f2, f3, f4, f5, f6⟩ := zbx_facts hI.res
  go_wp2
  have hE := hI.give (leaf_ok 2 0 t.text ((t.at_ : Nat) : Int)) (put7_fr V W.heap.size (.int .i64 2) (.int .i64 0) (.string ⟨t.text.toArray⟩) (.int .i64 ((t.at_ : Nat) : Int)) (.slice none 0 0) (.slice none 0 0) (.slice none 0 0))
  refine q_bp_world (fun V => NBx V W.heap.size (⟨.mk 2 0 t.text ((t.at_ : Nat) : Int) [] [] [], none, 0, none, 0, none, 0⟩ : EN) ∧ (⟨.mk 2 0 t.text ((t.at_ : Nat) : Int) [] [] [], none, 0, none, 0, none, 0⟩ : EN).Ok (fun k => k < W.heap.size) V ∧ PAt pb A c T fin (nextP s) V ∧ PFr pb W V) ⟨put7_blk hI.res _ _ _ _ _ _ _, hE⟩ ?_
  rintro V9 ⟨hB9, e1, e2, e3⟩
  obtain ⟨x0, x1, x2, x3, x4, x5, x6⟩ := hB9.cells
  obtain ⟨y9, hy9⟩ : ∃ y9, (⟨.mk 2 0 t.text ((t.at_ : Nat) : Int) [] [] [], none, 0, none, 0, none, 0⟩ : EN) = y9 := ⟨_, rfl⟩
  have HY9 : Hid (y9.t = r.1 ∧ (nextP s) = r.2) := by rw [← hy9]; exact by rw [← hre]; exact ⟨rfl, rfl⟩
  rw [hy9] at x0 x1 x2 x3 x4 x5 x6 e1
  exact bodyPost_ret (v := .agg #[.int .i64 y9.t.kind, .int .i64 y9.t.int, .string ⟨y9.t.name.toArray⟩, .int .i64 y9.t.at_, .slice y9.A y9.t.kids.length y9.c, .slice y9.B y9.t.clauses.length y9.d, .slice y9.C y9.t.body.length y9.e]) (by simp [results, Try.results77, go_sem, x0, x1, x2, x3, x4, x5, x6]) rfl ⟨y9, HY9.out.1, rfl, e1, by rw [← HY9.out.2]; exact e2, e3⟩

set_option maxRecDepth 100000 in
set_option maxHeartbeats 8000000 in
theorem prim_var {n : Nat} {deep : Nat} {s : PS} {r : ND × PS} {t : Tok} (he : s.e = 0) (ht : T[s.i]? = some t) (hk : t.kind = 3) (hr : primN T fin (lang T fin n) deep s = some r) (hp : PAt pb A c T fin s W) :
    Calls Try.prog 77 #[.pointer (some ⟨pb, 0, none⟩), .int .i64 (deep : Int)] W (NEnd pb A c T fin W r) := by
  unfold primN at hr
  rw [if_neg (by simp [he]), ht] at hr
  simp only [hk] at hr
  have HKD := Lib.hid hk
  clear hk
  have hre : ((.mk 3 0 t.text t.at_ [] [] [], nextP s) : ND × PS) = r := Option.some.inj hr
  have HST := Lib.hid (ZI.start hp)
  have hlen := hp.len
  have HPL : Hid (∀ V, PAt pb A c T fin s V → Calls Try.prog 20 #[.pointer (some ⟨pb, 0, none⟩)] V fun e w' => e = .returned (.int .i64 ((t.at_ : Nat) : Int)) ∧ Below V.heap.size V w') := fun V hV => by
    have h9 : placeP T fin s = ((t.at_ : Nat) : Int) := by unfold placeP; rw [ht]
    rw [← h9]
    exact place_any hV
  obtain ⟨hi, hte⟩ := List.getElem?_eq_some_iff.1 ht
  have HTE := Lib.hid hte
  have hd : decide (T.length ≤ s.i) = false := by simpa using hi
  have HE := Lib.hid he
  clear hr he hp ht hte
  go_enter Try.func77, Try.ntmps77
  go_upto_region 1 with (fail)
  refine wp_world (fun V => ZI pb A c T fin W s V) HST.out ?_
  clear HST
  intro V0 hI0
  obtain ⟨c0, c1, c2, c3, c4⟩ := hI0.p.cells
  rw [HE.out] at c3
  go_upto_region 4 with (go_at_call 20; refine (HPL.out _ hI0.p).mono ?_; rintro e V1 ⟨rfl, hb1⟩)
  refine wp_world (fun V => ZI pb A c T fin W s V) (hI0.keep hb1) ?_
  clear hI0 hb1 c0 c1 c2 c3 c4 HPL
  intro V2 hI2
  obtain ⟨c0, c1, c2, c3, c4⟩ := hI2.p.cells
  have HI2 := Lib.hid hI2
  clear hI2
  go_quiet (fail)
  go_wp2
  refine wp_world (fun V => ZI pb A c T fin W s V) (HI2.out.keep (below_drewN (Below.refl _ _) _)) ?_
  clear HI2 c0 c1 c2 c3 c4
  intro V3 hI3
  obtain ⟨c0, c1, c2, c3, c4⟩ := hI3.p.cells
  have q1 : (0 : Int) ≤ (s.i : Int) := by omega
  have q2 : (s.i : Int) < (T.length : Int) := by omega
  have htk := hI3.p.toks.at_ hi
  rw [HTE.out] at htk
  obtain ⟨b, o, hAe, hlt, t0, t1, t2, t3, t4⟩ := htk
  rw [hAe] at c0
  have HCV : Hid (V3.cell? ⟨pb, 0, none⟩ = some (.slice (some ⟨b, o, none⟩) T.length c) ∧ V3.cell? ⟨pb, 1, none⟩ = some (.int .i64 (s.i : Int)) ∧ pb < V3.heap.size ∧ V3.cell? ⟨b, o + s.i * 5, none⟩ = some (.int .i64 t.kind) ∧ V3.cell? ⟨b, o + s.i * 5 + 1, none⟩ = some (.int .i64 t.int) ∧ V3.cell? ⟨b, o + s.i * 5 + 2, none⟩ = some (.string ⟨t.text.toArray⟩) ∧ V3.cell? ⟨b, o + s.i * 5 + 3, none⟩ = some (.int .i64 ((t.at_ : Nat) : Int)) ∧ V3.cell? ⟨b, o + s.i * 5 + 4, none⟩ = some (.int .i64 ((t.fin : Nat) : Int)) ∧ b < V3.heap.size) := ⟨c0, c1, hI3.p.obj.lt, t0, t1, t2, t3, t4, hlt⟩
  have HI3 := Lib.hid hI3
  have HAE := Lib.hid hAe
  clear hI3 c0 c1 c2 c3 c4 t0 t1 t2 t3 t4 hlt hAe
  refine wp_region_W 11 (fun X => Below V3.heap.size V3 X) (by kernel_rfl) ?_ (fun hS0 => ?_)
  · exact (Below.refl _ _).drew
  (refine wpAnyW_take (i := 0) (v := ?_) rfl (by kernel_rfl) (by kernel_rfl) (by kernel_rfl) (by kernel_rfl) (fun _ _ _ h => h) (Or.inl ⟨by kernel_rfl, ?_⟩) (by assumption) ?_; rotate_left; focus (intro V9 hS9; go_simp; (try (with_reducible rfl)); done))
  try simp only [Act.put, List.getElem_toArray, List.getElem_cons_zero, List.setIfInBounds_toArray, List.set_cons_succ, List.set_cons_zero]
  (refine wpAnyW_take (i := 1) (v := ?_) rfl (by kernel_rfl) (by kernel_rfl) (by kernel_rfl) (by kernel_rfl) (fun _ _ _ h => h) (Or.inl ⟨by kernel_rfl, ?_⟩) (by assumption) ?_; rotate_left; focus (intro V9 hS9; go_simp; (try (with_reducible rfl)); done))
  try simp only [Act.put, List.getElem_toArray, List.getElem_cons_succ, List.getElem_cons_zero, List.setIfInBounds_toArray, List.set_cons_succ, List.set_cons_zero]
  (refine wpAnyW_take (i := 2) (v := ?_) rfl (by kernel_rfl) (by kernel_rfl) (by kernel_rfl) (by kernel_rfl) (fun _ _ _ h => h) (Or.inl ⟨by kernel_rfl, ?_⟩) (by assumption) ?_; rotate_left; focus (intro V9 hS9; go_simp; (try (with_reducible rfl)); done))
  try simp only [Act.put, List.getElem_toArray, List.getElem_cons_succ, List.getElem_cons_zero, List.setIfInBounds_toArray, List.set_cons_succ, List.set_cons_zero]
  (refine wpAnyW_take (i := 3) (v := ?_) rfl (by kernel_rfl) (by kernel_rfl) (by kernel_rfl) (by kernel_rfl) (fun _ _ _ h => h) (Or.inl ⟨by kernel_rfl, ?_⟩) (by assumption) ?_; rotate_left; focus (intro V9 hS9; have c0 := (hS9.cell HCV.out.2.2.1).trans HCV.out.1; go_simp; (try (with_reducible rfl)); done))
  try simp only [Act.put, List.getElem_toArray, List.getElem_cons_succ, List.getElem_cons_zero, List.setIfInBounds_toArray, List.set_cons_succ, List.set_cons_zero]
  (refine wpAnyW_take (i := 4) (v := ?_) rfl (by kernel_rfl) (by kernel_rfl) (by kernel_rfl) (by kernel_rfl) (fun _ _ _ h => h) (Or.inl ⟨by kernel_rfl, ?_⟩) (by assumption) ?_; rotate_left; focus (intro V9 hS9; go_simp; (try (with_reducible rfl)); done))
  try simp only [Act.put, List.getElem_toArray, List.getElem_cons_succ, List.getElem_cons_zero, List.setIfInBounds_toArray, List.set_cons_succ, List.set_cons_zero]
  (refine wpAnyW_take (i := 5) (v := ?_) rfl (by kernel_rfl) (by kernel_rfl) (by kernel_rfl) (by kernel_rfl) (fun _ _ _ h => h) (Or.inl ⟨by kernel_rfl, ?_⟩) (by assumption) ?_; rotate_left; focus (intro V9 hS9; go_simp; (try (with_reducible rfl)); done))
  try simp only [Act.put, List.getElem_toArray, List.getElem_cons_succ, List.getElem_cons_zero, List.setIfInBounds_toArray, List.set_cons_succ, List.set_cons_zero]
  (refine wpAnyW_take (i := 6) (v := ?_) rfl (by kernel_rfl) (by kernel_rfl) (by kernel_rfl) (by kernel_rfl) (fun _ _ _ h => h) (Or.inl ⟨by kernel_rfl, ?_⟩) (by assumption) ?_; rotate_left; focus (intro V9 hS9; go_simp; (try (with_reducible rfl)); done))
  try simp only [Act.put, List.getElem_toArray, List.getElem_cons_succ, List.getElem_cons_zero, List.setIfInBounds_toArray, List.set_cons_succ, List.set_cons_zero]
  (refine wpAnyW_take (i := 7) (v := ?_) rfl (by kernel_rfl) (by kernel_rfl) (by kernel_rfl) (by kernel_rfl) (fun _ _ _ h => h) (Or.inl ⟨by kernel_rfl, ?_⟩) (by assumption) ?_; rotate_left; focus (intro V9 hS9; have c1 := (hS9.cell HCV.out.2.2.1).trans HCV.out.2.1; go_simp; (try (with_reducible rfl)); done))
  try simp only [Act.put, List.getElem_toArray, List.getElem_cons_succ, List.getElem_cons_zero, List.setIfInBounds_toArray, List.set_cons_succ, List.set_cons_zero]
  (refine wpAnyW_take (i := 8) (v := ?_) rfl (by kernel_rfl) (by kernel_rfl) (by kernel_rfl) (by kernel_rfl) (fun _ _ _ h => h) (Or.inl ⟨by kernel_rfl, ?_⟩) (by assumption) ?_; rotate_left; focus (intro V9 hS9; go_simp; (try (with_reducible rfl)); done))
  try simp only [Act.put, List.getElem_toArray, List.getElem_cons_succ, List.getElem_cons_zero, List.setIfInBounds_toArray, List.set_cons_succ, List.set_cons_zero]
  (refine wpAnyW_take (i := 9) (v := ?_) rfl (by kernel_rfl) (by kernel_rfl) (by kernel_rfl) (by kernel_rfl) (fun _ _ _ h => h) (Or.inl ⟨by kernel_rfl, ?_⟩) (by assumption) ?_; rotate_left; focus (intro V9 hS9; obtain ⟨_, _, _, t0, t1, t2, t3, t4, hlt⟩ := HCV.out; have t0 := (hS9.cell hlt).trans t0; have t1 := (hS9.cell hlt).trans t1; have t2 := (hS9.cell hlt).trans t2; have t3 := (hS9.cell hlt).trans t3; have t4 := (hS9.cell hlt).trans t4; go_simp; (try (with_reducible rfl)); done))
  try simp only [Act.put, List.getElem_toArray, List.getElem_cons_succ, List.getElem_cons_zero, List.setIfInBounds_toArray, List.set_cons_succ, List.set_cons_zero]
  refine wpAnyW_ready (rs := [10]) (by kernel_rfl) (by simp) ?_
  refine AllReadyW.cons rfl (fun K hK => ?_) AllReadyW.nil
  go_simp
  refine hK.out _ _ ((Below.refl _ _).drew.alloc (Nat.le_refl _) _) (fun _ => ?_)
  clear hK K
  try simp only [Act.put, List.getElem_toArray, List.getElem_cons_succ, List.getElem_cons_zero, List.setIfInBounds_toArray, List.set_cons_succ, List.set_cons_zero]
  refine wpAnyW_ready (rs := [11]) (by kernel_rfl) (by simp) ?_
  refine AllReadyW.consE rfl (by kernel_rfl) (fun K hK => ?_) AllReadyW.nil
  go_simp
  refine hK.out _ _ ?_
  clear hK K
  refine wpAnyW_done (by kernel_rfl) ?_ _
  go_upto_region 8 with (fail)
  refine wp_world (fun X => Blk X V3.heap.size 80 (tokC t) ∧ ZI pb A c T fin W s X) ?_ ?_
  · exact ⟨(Blk.new V3 _ (tokC t)), (HI3.out.tok t).keep (below_drewN (Below.refl _ _) 1)⟩
  have HGP := Lib.hid HCV.out.2.2.1
  clear HI3 HCV hS0 q1 q2 hd
  obtain ⟨g6, hg6⟩ : ∃ g6, V3.heap.size = g6 := ⟨_, rfl⟩
  rw [hg6] at HGP ⊢
  clear hg6
  rintro V4 ⟨hT4, hI4⟩
  have x0 : V4.cell? ⟨g6, 0, none⟩ = some (.int .i64 t.kind) := hT4.cell 0
  have x1 : V4.cell? ⟨g6, 1, none⟩ = some (.int .i64 t.int) := hT4.cell 1
  have x2 : V4.cell? ⟨g6, 2, none⟩ = some (.string ⟨t.text.toArray⟩) := hT4.cell 2
  rw [HKD.out] at x0
  have q9 : IntKind.i64.wrap ((s.i : Int) + 1) = ((s.i + 1 : Nat) : Int) := by rw [IntKind.wrap_i64]; omega
  obtain ⟨c0, c1, c2, c3, c4⟩ := hI4.p.cells
  have f1 := hI4.p.obj.frozen 1
  go_upto_region 17 with (fail)
  have hst := hI4.p.setI hi rfl
  have hT5 : Blk _ g6 _ _ := hT4.far (p := ⟨pb, 1, none⟩) (by have := HGP.out; show ¬ g6 = pb; omega) (.int .i64 ((s.i + 1 : Nat) : Int))
  refine wp_world (fun X => Blk X g6 80 (tokC t) ∧ ZI pb A c T fin W (nextP s) X) ⟨hT5, hI4.act hst.1 hst.2⟩ ?_
  clear hT5 hst hT4 hI4 x0 x1 x2 c0 c1 c2 c3 c4 f1
  rintro V ⟨hT, hI⟩
  have x1 : V.cell? ⟨g6, 1, none⟩ = some (.int .i64 t.int) := hT.cell 1
  have x2 : V.cell? ⟨g6, 2, none⟩ = some (.string ⟨t.text.toArray⟩) := hT.cell 2
  obtain ⟨z0, z1, z2, z3, z4, z5, z6, f0, f1, f2, f3, f4, f5, f6⟩ := zbx_facts hI.res
  go_wp2
  have hE := hI.give (leaf_ok 3 0 t.text ((t.at_ : Nat) : Int)) (put7_fr V W.heap.size (.int .i64 3) (.int .i64 0) (.string ⟨t.text.toArray⟩) (.int .i64 ((t.at_ : Nat) : Int)) (.slice none 0 0) (.slice none 0 0) (.slice none 0 0))
  refine q_bp_world (fun V => NBx V W.heap.size (⟨.mk 3 0 t.text ((t.at_ : Nat) : Int) [] [] [], none, 0, none, 0, none, 0⟩ : EN) ∧ (⟨.mk 3 0 t.text ((t.at_ : Nat) : Int) [] [] [], none, 0, none, 0, none, 0⟩ : EN).Ok (fun k => k < W.heap.size) V ∧ PAt pb A c T fin (nextP s) V ∧ PFr pb W V) ⟨put7_blk hI.res _ _ _ _ _ _ _, hE⟩ ?_
  rintro V9 ⟨hB9, e1, e2, e3⟩
  obtain ⟨x0, x1, x2, x3, x4, x5, x6⟩ := hB9.cells
  obtain ⟨y9, hy9⟩ : ∃ y9, (⟨.mk 3 0 t.text ((t.at_ : Nat) : Int) [] [] [], none, 0, none, 0, none, 0⟩ : EN) = y9 := ⟨_, rfl⟩
  have HY9 : Hid (y9.t = r.1 ∧ (nextP s) = r.2) := by rw [← hy9]; exact by rw [← hre]; exact ⟨rfl, rfl⟩
  rw [hy9] at x0 x1 x2 x3 x4 x5 x6 e1
  exact bodyPost_ret (v := .agg #[.int .i64 y9.t.kind, .int .i64 y9.t.int, .string ⟨y9.t.name.toArray⟩, .int .i64 y9.t.at_, .slice y9.A y9.t.kids.length y9.c, .slice y9.B y9.t.clauses.length y9.d, .slice y9.C y9.t.body.length y9.e]) (by simp [results, Try.results77, go_sem, x0, x1, x2, x3, x4, x5, x6]) rfl ⟨y9, HY9.out.1, rfl, e1, by rw [← HY9.out.2]; exact e2, e3⟩

end
end
section
open Go.RowKit
set_option linter.unusedVariables false

section
variable {pb : Nat} {A : Option Addr} {c : Nat} {T : List Tok} {fin : Nat} {W : World}
/-- A node in a new box. -/
theorem ZI.make {s : PS} {V : World} {y : EN} (h : ZI pb A c T fin W s V) (hy : y.Ok (fun k => k ≤ W.heap.size) V) : BinI pb A c T fin W V.heap.size y s (V.alloc (.cells #[.int .i64 y.t.kind, .int .i64 y.t.int, .string ⟨y.t.name.toArray⟩, .int .i64 y.t.at_, .slice y.A y.t.kids.length y.c, .slice y.B y.t.clauses.length y.d, .slice y.C y.t.body.length y.e] 26)) := by
  have h1 := h.lt
  have hb := below_alloc V (.cells #[.int .i64 y.t.kind, .int .i64 y.t.int, .string ⟨y.t.name.toArray⟩, .int .i64 y.t.at_, .slice y.A y.t.kids.length y.c, .slice y.B y.t.clauses.length y.d, .slice y.C y.t.body.length y.e] 26)
  exact ⟨h.p.keep hb, h.fr.same (Fr.alloc _ _ _), h.res.keep hb, Blk.new _ _ _, hy.move (.of_below hb fun k hlt hk => by
    show k ≤ W.heap.size
    rcases hk with hk | hk <;> omega), h1, h.pb⟩
theorem ZI.off {s : PS} {V V' : World} (h : ZI pb A c T fin W s V) {B : Option Addr} {d : Nat} {l : List ND} (hr : RdN (fun k => k < V.heap.size) V' B d l) : RdN (fun k => k ≤ W.heap.size) V' B d l := hr.move (.sub_ fun k _ hk => by
  have h1 := h.lt
  have h9 : k ≤ W.heap.size := hk
  show k < V.heap.size
  omega)
theorem BinI.offC {g : Nat} {x : EN} {s : PS} {V V' : World} (h : BinI pb A c T fin W g x s V) {B : Option Addr} {d : Nat} {l : List CD} (hr : RdC (fun k => k < V.heap.size) V' B d l) : RdC (fun k => k ≤ W.heap.size ∨ k = g) V' B d l := hr.move (.sub_ fun k _ hk => by
  have h1 := h.a.lt
  have h2 := h.g
  show k < V.heap.size
  rcases hk with hk | hk <;> omega)

set_option maxRecDepth 100000 in
set_option maxHeartbeats 8000000 in
theorem prim_open {n : Nat} {deep : Nat} {s : PS} {r : ND × PS} {t : Tok} (HE : NodeOk pb A c T fin 10 Lang.expr n) (hdp : deep + (n + 1) ≤ deepB) (he : s.e = 0) (ht : T[s.i]? = some t) (hk : t.kind ≠ 1 ∧ t.kind ≠ 2 ∧ t.kind ≠ 3) (hb0 : isP T sOpen s = true) (hr : primW T fin (lang T fin n) deep s = some r) (hp : PAt pb A c T fin s W) :
    Calls Try.prog 77 #[.pointer (some ⟨pb, 0, none⟩), .int .i64 (deep : Int)] W (NEnd pb A c T fin W r) := by
  unfold primW at hr
  rw [hb0, if_pos rfl] at hr
  have hdq : deep + (n + 1) ≤ 4611686018427387904 := hdp
  have q9 : IntKind.i64.wrap ((deep : Int) + 1) = ((deep + 1 : Nat) : Int) := by rw [IntKind.wrap_i64]; omega
  obtain ⟨pl, hpl⟩ : ∃ pl, placeP T fin s = pl := ⟨_, rfl⟩
  have hpt : pl = ((t.at_ : Nat) : Int) := by rw [← hpl]; unfold placeP; rw [ht]
  try rw [hpl] at hr
  obtain ⟨q, hq, hl⟩ := bind_inv hr
  have HRE := Lib.hid (Option.some.inj hl)
  have HS2 : Hid (∀ V, PAt pb A c T fin (nextP s) V → Calls Try.prog 10 #[.pointer (some ⟨pb, 0, none⟩), .int .i64 (((deep + 1 : Nat) : Nat) : Int)] V (NEnd pb A c T fin V q)) := fun V hV => HE (deep + 1) _ V q (by omega) hq hV
  have HMU : Hid (∀ V, PAt pb A c T fin q.2 V → Calls Try.prog 26 #[.pointer (some ⟨pb, 0, none⟩), .string ⟨#[41]⟩] V fun r w' => r = .returned (.tuple #[]) ∧ PAt pb A c T fin (mustP T fin sShut q.2) w' ∧ PFr pb V w') := fun V hV => must_any hV sShut
  clear hq hl HE
  have HF0 : Hid (∀ V, PAt pb A c T fin s V → Calls Try.prog 21 #[.pointer (some ⟨pb, 0, none⟩), .string ⟨#[40]⟩] V fun r w' => r = .returned (.bool true) ∧ PAt pb A c T fin (nextP s) w' ∧ PFr pb V w') := fun V hV => by
    have := take_any hV sOpen
    rw [hb0, if_pos rfl] at this
    exact this
  clear hb0
  have HKD := Lib.hid hk
  clear hk
  have HPT := Lib.hid hpt
  clear hpt hpl
  have HST := Lib.hid (ZI.start hp)
  have hlen := hp.len
  have HPL : Hid (∀ V, PAt pb A c T fin s V → Calls Try.prog 20 #[.pointer (some ⟨pb, 0, none⟩)] V fun e w' => e = .returned (.int .i64 ((t.at_ : Nat) : Int)) ∧ Below V.heap.size V w') := fun V hV => by
    have h9 : placeP T fin s = ((t.at_ : Nat) : Int) := by unfold placeP; rw [ht]
    rw [← h9]
    exact place_any hV
  obtain ⟨hi, hte⟩ := List.getElem?_eq_some_iff.1 ht
  have HTE := Lib.hid hte
  have hd : decide (T.length ≤ s.i) = false := by simpa using hi
  have HE := Lib.hid he
  clear hr he hp ht hte
  go_enter Try.func77, Try.ntmps77
  go_upto_region 1 with (fail)
  refine wp_world (fun V => ZI pb A c T fin W s V) HST.out ?_
  clear HST
  intro V0 hI0
  obtain ⟨c0, c1, c2, c3, c4⟩ := hI0.p.cells
  rw [HE.out] at c3
  go_upto_region 4 with (go_at_call 20; refine (HPL.out _ hI0.p).mono ?_; rintro e V1 ⟨rfl, hb1⟩)
  refine wp_world (fun V => ZI pb A c T fin W s V) (hI0.keep hb1) ?_
  clear hI0 hb1 c0 c1 c2 c3 c4 HPL
  intro V2 hI2
  obtain ⟨c0, c1, c2, c3, c4⟩ := hI2.p.cells
  have HI2 := Lib.hid hI2
  clear hI2
  go_quiet (fail)
  go_wp2
  refine wp_world (fun V => ZI pb A c T fin W s V) (HI2.out.keep (below_drewN (Below.refl _ _) _)) ?_
  clear HI2 c0 c1 c2 c3 c4
  intro V3 hI3
  obtain ⟨c0, c1, c2, c3, c4⟩ := hI3.p.cells
  have q1 : (0 : Int) ≤ (s.i : Int) := by omega
  have q2 : (s.i : Int) < (T.length : Int) := by omega
  have htk := hI3.p.toks.at_ hi
  rw [HTE.out] at htk
  obtain ⟨b, o, hAe, hlt, t0, t1, t2, t3, t4⟩ := htk
  rw [hAe] at c0
  have HCV : Hid (V3.cell? ⟨pb, 0, none⟩ = some (.slice (some ⟨b, o, none⟩) T.length c) ∧ V3.cell? ⟨pb, 1, none⟩ = some (.int .i64 (s.i : Int)) ∧ pb < V3.heap.size ∧ V3.cell? ⟨b, o + s.i * 5, none⟩ = some (.int .i64 t.kind) ∧ V3.cell? ⟨b, o + s.i * 5 + 1, none⟩ = some (.int .i64 t.int) ∧ V3.cell? ⟨b, o + s.i * 5 + 2, none⟩ = some (.string ⟨t.text.toArray⟩) ∧ V3.cell? ⟨b, o + s.i * 5 + 3, none⟩ = some (.int .i64 ((t.at_ : Nat) : Int)) ∧ V3.cell? ⟨b, o + s.i * 5 + 4, none⟩ = some (.int .i64 ((t.fin : Nat) : Int)) ∧ b < V3.heap.size) := ⟨c0, c1, hI3.p.obj.lt, t0, t1, t2, t3, t4, hlt⟩
  have HI3 := Lib.hid hI3
  have HAE := Lib.hid hAe
  clear hI3 c0 c1 c2 c3 c4 t0 t1 t2 t3 t4 hlt hAe
  refine wp_region_W 11 (fun X => Below V3.heap.size V3 X) (by kernel_rfl) ?_ (fun hS0 => ?_)
  · exact (Below.refl _ _).drew
  (refine wpAnyW_take (i := 0) (v := ?_) rfl (by kernel_rfl) (by kernel_rfl) (by kernel_rfl) (by kernel_rfl) (fun _ _ _ h => h) (Or.inl ⟨by kernel_rfl, ?_⟩) (by assumption) ?_; rotate_left; focus (intro V9 hS9; go_simp; (try (with_reducible rfl)); done))
  try simp only [Act.put, List.getElem_toArray, List.getElem_cons_zero, List.setIfInBounds_toArray, List.set_cons_succ, List.set_cons_zero]
  (refine wpAnyW_take (i := 1) (v := ?_) rfl (by kernel_rfl) (by kernel_rfl) (by kernel_rfl) (by kernel_rfl) (fun _ _ _ h => h) (Or.inl ⟨by kernel_rfl, ?_⟩) (by assumption) ?_; rotate_left; focus (intro V9 hS9; go_simp; (try (with_reducible rfl)); done))
  try simp only [Act.put, List.getElem_toArray, List.getElem_cons_succ, List.getElem_cons_zero, List.setIfInBounds_toArray, List.set_cons_succ, List.set_cons_zero]
  (refine wpAnyW_take (i := 2) (v := ?_) rfl (by kernel_rfl) (by kernel_rfl) (by kernel_rfl) (by kernel_rfl) (fun _ _ _ h => h) (Or.inl ⟨by kernel_rfl, ?_⟩) (by assumption) ?_; rotate_left; focus (intro V9 hS9; go_simp; (try (with_reducible rfl)); done))
  try simp only [Act.put, List.getElem_toArray, List.getElem_cons_succ, List.getElem_cons_zero, List.setIfInBounds_toArray, List.set_cons_succ, List.set_cons_zero]
  (refine wpAnyW_take (i := 3) (v := ?_) rfl (by kernel_rfl) (by kernel_rfl) (by kernel_rfl) (by kernel_rfl) (fun _ _ _ h => h) (Or.inl ⟨by kernel_rfl, ?_⟩) (by assumption) ?_; rotate_left; focus (intro V9 hS9; have c0 := (hS9.cell HCV.out.2.2.1).trans HCV.out.1; go_simp; (try (with_reducible rfl)); done))
  try simp only [Act.put, List.getElem_toArray, List.getElem_cons_succ, List.getElem_cons_zero, List.setIfInBounds_toArray, List.set_cons_succ, List.set_cons_zero]
  (refine wpAnyW_take (i := 4) (v := ?_) rfl (by kernel_rfl) (by kernel_rfl) (by kernel_rfl) (by kernel_rfl) (fun _ _ _ h => h) (Or.inl ⟨by kernel_rfl, ?_⟩) (by assumption) ?_; rotate_left; focus (intro V9 hS9; go_simp; (try (with_reducible rfl)); done))
  try simp only [Act.put, List.getElem_toArray, List.getElem_cons_succ, List.getElem_cons_zero, List.setIfInBounds_toArray, List.set_cons_succ, List.set_cons_zero]
  (refine wpAnyW_take (i := 5) (v := ?_) rfl (by kernel_rfl) (by kernel_rfl) (by kernel_rfl) (by kernel_rfl) (fun _ _ _ h => h) (Or.inl ⟨by kernel_rfl, ?_⟩) (by assumption) ?_; rotate_left; focus (intro V9 hS9; go_simp; (try (with_reducible rfl)); done))
  try simp only [Act.put, List.getElem_toArray, List.getElem_cons_succ, List.getElem_cons_zero, List.setIfInBounds_toArray, List.set_cons_succ, List.set_cons_zero]
  (refine wpAnyW_take (i := 6) (v := ?_) rfl (by kernel_rfl) (by kernel_rfl) (by kernel_rfl) (by kernel_rfl) (fun _ _ _ h => h) (Or.inl ⟨by kernel_rfl, ?_⟩) (by assumption) ?_; rotate_left; focus (intro V9 hS9; go_simp; (try (with_reducible rfl)); done))
  try simp only [Act.put, List.getElem_toArray, List.getElem_cons_succ, List.getElem_cons_zero, List.setIfInBounds_toArray, List.set_cons_succ, List.set_cons_zero]
  (refine wpAnyW_take (i := 7) (v := ?_) rfl (by kernel_rfl) (by kernel_rfl) (by kernel_rfl) (by kernel_rfl) (fun _ _ _ h => h) (Or.inl ⟨by kernel_rfl, ?_⟩) (by assumption) ?_; rotate_left; focus (intro V9 hS9; have c1 := (hS9.cell HCV.out.2.2.1).trans HCV.out.2.1; go_simp; (try (with_reducible rfl)); done))
  try simp only [Act.put, List.getElem_toArray, List.getElem_cons_succ, List.getElem_cons_zero, List.setIfInBounds_toArray, List.set_cons_succ, List.set_cons_zero]
  (refine wpAnyW_take (i := 8) (v := ?_) rfl (by kernel_rfl) (by kernel_rfl) (by kernel_rfl) (by kernel_rfl) (fun _ _ _ h => h) (Or.inl ⟨by kernel_rfl, ?_⟩) (by assumption) ?_; rotate_left; focus (intro V9 hS9; go_simp; (try (with_reducible rfl)); done))
  try simp only [Act.put, List.getElem_toArray, List.getElem_cons_succ, List.getElem_cons_zero, List.setIfInBounds_toArray, List.set_cons_succ, List.set_cons_zero]
  (refine wpAnyW_take (i := 9) (v := ?_) rfl (by kernel_rfl) (by kernel_rfl) (by kernel_rfl) (by kernel_rfl) (fun _ _ _ h => h) (Or.inl ⟨by kernel_rfl, ?_⟩) (by assumption) ?_; rotate_left; focus (intro V9 hS9; obtain ⟨_, _, _, t0, t1, t2, t3, t4, hlt⟩ := HCV.out; have t0 := (hS9.cell hlt).trans t0; have t1 := (hS9.cell hlt).trans t1; have t2 := (hS9.cell hlt).trans t2; have t3 := (hS9.cell hlt).trans t3; have t4 := (hS9.cell hlt).trans t4; go_simp; (try (with_reducible rfl)); done))
  try simp only [Act.put, List.getElem_toArray, List.getElem_cons_succ, List.getElem_cons_zero, List.setIfInBounds_toArray, List.set_cons_succ, List.set_cons_zero]
  refine wpAnyW_ready (rs := [10]) (by kernel_rfl) (by simp) ?_
  refine AllReadyW.cons rfl (fun K hK => ?_) AllReadyW.nil
  go_simp
  refine hK.out _ _ ((Below.refl _ _).drew.alloc (Nat.le_refl _) _) (fun _ => ?_)
  clear hK K
  try simp only [Act.put, List.getElem_toArray, List.getElem_cons_succ, List.getElem_cons_zero, List.setIfInBounds_toArray, List.set_cons_succ, List.set_cons_zero]
  refine wpAnyW_ready (rs := [11]) (by kernel_rfl) (by simp) ?_
  refine AllReadyW.consE rfl (by kernel_rfl) (fun K hK => ?_) AllReadyW.nil
  go_simp
  refine hK.out _ _ ?_
  clear hK K
  refine wpAnyW_done (by kernel_rfl) ?_ _
  go_upto_region 8 with (fail)
  refine wp_world (fun X => Blk X V3.heap.size 80 (tokC t) ∧ ZI pb A c T fin W s X) ?_ ?_
  · exact ⟨(Blk.new V3 _ (tokC t)), (HI3.out.tok t).keep (below_drewN (Below.refl _ _) 1)⟩
  have HGP := Lib.hid HCV.out.2.2.1
  clear HI3 HCV hS0 q1 q2 hd
  obtain ⟨g6, hg6⟩ : ∃ g6, V3.heap.size = g6 := ⟨_, rfl⟩
  rw [hg6] at HGP ⊢
  clear hg6
  rintro V4 ⟨hT4, hI4⟩
  have x0 : V4.cell? ⟨g6, 0, none⟩ = some (.int .i64 t.kind) := hT4.cell 0
  have x1 : V4.cell? ⟨g6, 1, none⟩ = some (.int .i64 t.int) := hT4.cell 1
  have x2 : V4.cell? ⟨g6, 2, none⟩ = some (.string ⟨t.text.toArray⟩) := hT4.cell 2
  have d1 : (t.kind == 1) = false := by have := HKD.out.1; simpa using this
  have d2 : (t.kind == 2) = false := by have := HKD.out.2.1; simpa using this
  have d3 : (t.kind == 3) = false := by have := HKD.out.2.2; simpa using this
  go_upto_region 18 with (fail)
  refine wp_world (fun X => ZI pb A c T fin W s X) hI4 ?_
  clear hT4 hI4 x0 x1 x2 d1 d2 d3 HTE HAE HGP hi HKD
  rw [← HPT.out]
  clear HPT
  intro V5 hI5
  go_upto_region 19 with (first
    | (go_at_call 21; with_reducible refine (HF0.out _ hI5.p).mono ?_; rintro e Vc0 ⟨rfl, hpc0, hfc0⟩))
  refine wp_world (fun X => ZI pb A c T fin W (nextP s) X) (hI5.act hpc0 hfc0) ?_
  clear hI5 hpc0 hfc0 HF0
  intro V6 hI
  go_upto_region 20 with (go_at_call 10; refine (HS2.out _ hI.p).mono ?_; rintro e V7 ⟨x, hx, rfl, hok, hp7, hf7⟩; replace hx := Lib.hid hx)
  have hI8 := (hI.act hp7 hf7).make (ok_le hok hI.lt)
  obtain ⟨g, hg⟩ : ∃ g, V7.heap.size = g := ⟨_, rfl⟩
  rw [hg] at hI8 ⊢
  refine wp_world (fun V => BinI pb A c T fin W g x q.2 V) hI8 ?_
  clear hI8 hI hok hp7 hf7 hg HS2
  intro V8 hI8
  go_upto_region 21 with (go_at_call 26; refine (HMU.out _ hI8.p).mono ?_; rintro e V7 ⟨rfl, hp7, hf7⟩)
  refine wp_world (fun V => BinI pb A c T fin W g x (mustP T fin sShut q.2) V) (hI8.act hp7 hf7) ?_
  clear hI8 hp7 hf7 HMU
  intro V9 hI
  obtain ⟨y, hy⟩ : ∃ y : EN, x = y := ⟨_, rfl⟩
  have HY9 : Hid (y.t = r.1 ∧ (mustP T fin sShut q.2) = r.2) := by rw [← hy]; exact by rw [← HRE.out]; exact ⟨hx.out, rfl⟩
  rw [hy] at hI
  clear hy
  obtain ⟨a0, a1, a2, a3, a4, a5, a6⟩ := hI.a.cells
  obtain ⟨z0, z1, z2, z3, z4, z5, z6, f0, f1, f2, f3, f4, f5, f6⟩ := zbx_facts hI.res
  go_wp2
  refine q_bp_world (fun V => NBx V W.heap.size y ∧ Fr (fun k => k = W.heap.size) V9 V) ⟨put7_blk hI.res _ _ _ _ _ _ _, put7_fr _ _ _ _ _ _ _ _ _⟩ ?_
  rintro V10 ⟨hB6, hF6⟩
  obtain ⟨x0, x1, x2, x3, x4, x5, x6⟩ := hB6.cells
  obtain ⟨e1, e2, e3⟩ := hI.fin_ hF6
  exact bodyPost_ret (v := .agg #[.int .i64 y.t.kind, .int .i64 y.t.int, .string ⟨y.t.name.toArray⟩, .int .i64 y.t.at_, .slice y.A y.t.kids.length y.c, .slice y.B y.t.clauses.length y.d, .slice y.C y.t.body.length y.e]) (by simp [results, Try.results77, go_sem, x0, x1, x2, x3, x4, x5, x6]) rfl ⟨y, HY9.out.1, rfl, e1, by rw [← HY9.out.2]; exact e2, e3⟩

set_option maxRecDepth 100000 in
set_option maxHeartbeats 8000000 in
theorem prim_lc {n : Nat} {deep : Nat} {s : PS} {r : ND × PS} {t : Tok} (HMB : MaybeOk pb A c T fin n) (hdp : deep + (n + 1) ≤ deepB) (he : s.e = 0) (ht : T[s.i]? = some t) (hk : t.kind ≠ 1 ∧ t.kind ≠ 2 ∧ t.kind ≠ 3) (hb0 : isP T sOpen s = false) (hb1 : isP T sLc s = true) (hr : primW T fin (lang T fin n) deep s = some r) (hp : PAt pb A c T fin s W) :
    Calls Try.prog 77 #[.pointer (some ⟨pb, 0, none⟩), .int .i64 (deep : Int)] W (NEnd pb A c T fin W r) := by
  unfold primW at hr
  rw [hb0, if_neg (by simp), hb1, if_pos rfl] at hr
  have hdq : deep + (n + 1) ≤ 4611686018427387904 := hdp
  have q9 : IntKind.i64.wrap ((deep : Int) + 1) = ((deep + 1 : Nat) : Int) := by rw [IntKind.wrap_i64]; omega
  obtain ⟨pl, hpl⟩ : ∃ pl, placeP T fin s = pl := ⟨_, rfl⟩
  have hpt : pl = ((t.at_ : Nat) : Int) := by rw [← hpl]; unfold placeP; rw [ht]
  try rw [hpl] at hr
  obtain ⟨q, hq, hl⟩ := bind_inv hr
  have HRE := Lib.hid (Option.some.inj hl)
  have HS2 : Hid (∀ V, PAt pb A c T fin (nextP s) V → Calls Try.prog 64 #[.pointer (some ⟨pb, 0, none⟩), .string ⟨#[125]⟩, .int .i64 (((deep + 1 : Nat) : Nat) : Int)] V (LEnd pb A c T fin V q)) := fun V hV => HMB sRc (deep + 1) _ V q (by omega) hq hV
  clear hq hl HMB
  have HF0 : Hid (∀ V, PAt pb A c T fin s V → Calls Try.prog 21 #[.pointer (some ⟨pb, 0, none⟩), .string ⟨#[40]⟩] V fun r w' => r = .returned (.bool false) ∧ PAt pb A c T fin s w' ∧ PFr pb V w') := fun V hV => by
    have := take_any hV sOpen
    rw [hb0, if_neg (by simp)] at this
    exact this
  have HF1 : Hid (∀ V, PAt pb A c T fin s V → Calls Try.prog 21 #[.pointer (some ⟨pb, 0, none⟩), .string ⟨#[123]⟩] V fun r w' => r = .returned (.bool true) ∧ PAt pb A c T fin (nextP s) w' ∧ PFr pb V w') := fun V hV => by
    have := take_any hV sLc
    rw [hb1, if_pos rfl] at this
    exact this
  clear hb0 hb1
  have HKD := Lib.hid hk
  clear hk
  have HPT := Lib.hid hpt
  clear hpt hpl
  have HST := Lib.hid (ZI.start hp)
  have hlen := hp.len
  have HPL : Hid (∀ V, PAt pb A c T fin s V → Calls Try.prog 20 #[.pointer (some ⟨pb, 0, none⟩)] V fun e w' => e = .returned (.int .i64 ((t.at_ : Nat) : Int)) ∧ Below V.heap.size V w') := fun V hV => by
    have h9 : placeP T fin s = ((t.at_ : Nat) : Int) := by unfold placeP; rw [ht]
    rw [← h9]
    exact place_any hV
  obtain ⟨hi, hte⟩ := List.getElem?_eq_some_iff.1 ht
  have HTE := Lib.hid hte
  have hd : decide (T.length ≤ s.i) = false := by simpa using hi
  have HE := Lib.hid he
  clear hr he hp ht hte
  go_enter Try.func77, Try.ntmps77
  go_upto_region 1 with (fail)
  refine wp_world (fun V => ZI pb A c T fin W s V) HST.out ?_
  clear HST
  intro V0 hI0
  obtain ⟨c0, c1, c2, c3, c4⟩ := hI0.p.cells
  rw [HE.out] at c3
  go_upto_region 4 with (go_at_call 20; refine (HPL.out _ hI0.p).mono ?_; rintro e V1 ⟨rfl, hb1⟩)
  refine wp_world (fun V => ZI pb A c T fin W s V) (hI0.keep hb1) ?_
  clear hI0 hb1 c0 c1 c2 c3 c4 HPL
  intro V2 hI2
  obtain ⟨c0, c1, c2, c3, c4⟩ := hI2.p.cells
  have HI2 := Lib.hid hI2
  clear hI2
  go_quiet (fail)
  go_wp2
  refine wp_world (fun V => ZI pb A c T fin W s V) (HI2.out.keep (below_drewN (Below.refl _ _) _)) ?_
  clear HI2 c0 c1 c2 c3 c4
  intro V3 hI3
  obtain ⟨c0, c1, c2, c3, c4⟩ := hI3.p.cells
  have q1 : (0 : Int) ≤ (s.i : Int) := by omega
  have q2 : (s.i : Int) < (T.length : Int) := by omega
  have htk := hI3.p.toks.at_ hi
  rw [HTE.out] at htk
  obtain ⟨b, o, hAe, hlt, t0, t1, t2, t3, t4⟩ := htk
  rw [hAe] at c0
  have HCV : Hid (V3.cell? ⟨pb, 0, none⟩ = some (.slice (some ⟨b, o, none⟩) T.length c) ∧ V3.cell? ⟨pb, 1, none⟩ = some (.int .i64 (s.i : Int)) ∧ pb < V3.heap.size ∧ V3.cell? ⟨b, o + s.i * 5, none⟩ = some (.int .i64 t.kind) ∧ V3.cell? ⟨b, o + s.i * 5 + 1, none⟩ = some (.int .i64 t.int) ∧ V3.cell? ⟨b, o + s.i * 5 + 2, none⟩ = some (.string ⟨t.text.toArray⟩) ∧ V3.cell? ⟨b, o + s.i * 5 + 3, none⟩ = some (.int .i64 ((t.at_ : Nat) : Int)) ∧ V3.cell? ⟨b, o + s.i * 5 + 4, none⟩ = some (.int .i64 ((t.fin : Nat) : Int)) ∧ b < V3.heap.size) := ⟨c0, c1, hI3.p.obj.lt, t0, t1, t2, t3, t4, hlt⟩
  have HI3 := Lib.hid hI3
  have HAE := Lib.hid hAe
  clear hI3 c0 c1 c2 c3 c4 t0 t1 t2 t3 t4 hlt hAe
  refine wp_region_W 11 (fun X => Below V3.heap.size V3 X) (by kernel_rfl) ?_ (fun hS0 => ?_)
  · exact (Below.refl _ _).drew
  (refine wpAnyW_take (i := 0) (v := ?_) rfl (by kernel_rfl) (by kernel_rfl) (by kernel_rfl) (by kernel_rfl) (fun _ _ _ h => h) (Or.inl ⟨by kernel_rfl, ?_⟩) (by assumption) ?_; rotate_left; focus (intro V9 hS9; go_simp; (try (with_reducible rfl)); done))
  try simp only [Act.put, List.getElem_toArray, List.getElem_cons_zero, List.setIfInBounds_toArray, List.set_cons_succ, List.set_cons_zero]
  (refine wpAnyW_take (i := 1) (v := ?_) rfl (by kernel_rfl) (by kernel_rfl) (by kernel_rfl) (by kernel_rfl) (fun _ _ _ h => h) (Or.inl ⟨by kernel_rfl, ?_⟩) (by assumption) ?_; rotate_left; focus (intro V9 hS9; go_simp; (try (with_reducible rfl)); done))
  try simp only [Act.put, List.getElem_toArray, List.getElem_cons_succ, List.getElem_cons_zero, List.setIfInBounds_toArray, List.set_cons_succ, List.set_cons_zero]
  (refine wpAnyW_take (i := 2) (v := ?_) rfl (by kernel_rfl) (by kernel_rfl) (by kernel_rfl) (by kernel_rfl) (fun _ _ _ h => h) (Or.inl ⟨by kernel_rfl, ?_⟩) (by assumption) ?_; rotate_left; focus (intro V9 hS9; go_simp; (try (with_reducible rfl)); done))
  try simp only [Act.put, List.getElem_toArray, List.getElem_cons_succ, List.getElem_cons_zero, List.setIfInBounds_toArray, List.set_cons_succ, List.set_cons_zero]
  (refine wpAnyW_take (i := 3) (v := ?_) rfl (by kernel_rfl) (by kernel_rfl) (by kernel_rfl) (by kernel_rfl) (fun _ _ _ h => h) (Or.inl ⟨by kernel_rfl, ?_⟩) (by assumption) ?_; rotate_left; focus (intro V9 hS9; have c0 := (hS9.cell HCV.out.2.2.1).trans HCV.out.1; go_simp; (try (with_reducible rfl)); done))
  try simp only [Act.put, List.getElem_toArray, List.getElem_cons_succ, List.getElem_cons_zero, List.setIfInBounds_toArray, List.set_cons_succ, List.set_cons_zero]
  (refine wpAnyW_take (i := 4) (v := ?_) rfl (by kernel_rfl) (by kernel_rfl) (by kernel_rfl) (by kernel_rfl) (fun _ _ _ h => h) (Or.inl ⟨by kernel_rfl, ?_⟩) (by assumption) ?_; rotate_left; focus (intro V9 hS9; go_simp; (try (with_reducible rfl)); done))
  try simp only [Act.put, List.getElem_toArray, List.getElem_cons_succ, List.getElem_cons_zero, List.setIfInBounds_toArray, List.set_cons_succ, List.set_cons_zero]
  (refine wpAnyW_take (i := 5) (v := ?_) rfl (by kernel_rfl) (by kernel_rfl) (by kernel_rfl) (by kernel_rfl) (fun _ _ _ h => h) (Or.inl ⟨by kernel_rfl, ?_⟩) (by assumption) ?_; rotate_left; focus (intro V9 hS9; go_simp; (try (with_reducible rfl)); done))
  try simp only [Act.put, List.getElem_toArray, List.getElem_cons_succ, List.getElem_cons_zero, List.setIfInBounds_toArray, List.set_cons_succ, List.set_cons_zero]
  (refine wpAnyW_take (i := 6) (v := ?_) rfl (by kernel_rfl) (by kernel_rfl) (by kernel_rfl) (by kernel_rfl) (fun _ _ _ h => h) (Or.inl ⟨by kernel_rfl, ?_⟩) (by assumption) ?_; rotate_left; focus (intro V9 hS9; go_simp; (try (with_reducible rfl)); done))
  try simp only [Act.put, List.getElem_toArray, List.getElem_cons_succ, List.getElem_cons_zero, List.setIfInBounds_toArray, List.set_cons_succ, List.set_cons_zero]
  (refine wpAnyW_take (i := 7) (v := ?_) rfl (by kernel_rfl) (by kernel_rfl) (by kernel_rfl) (by kernel_rfl) (fun _ _ _ h => h) (Or.inl ⟨by kernel_rfl, ?_⟩) (by assumption) ?_; rotate_left; focus (intro V9 hS9; have c1 := (hS9.cell HCV.out.2.2.1).trans HCV.out.2.1; go_simp; (try (with_reducible rfl)); done))
  try simp only [Act.put, List.getElem_toArray, List.getElem_cons_succ, List.getElem_cons_zero, List.setIfInBounds_toArray, List.set_cons_succ, List.set_cons_zero]
  (refine wpAnyW_take (i := 8) (v := ?_) rfl (by kernel_rfl) (by kernel_rfl) (by kernel_rfl) (by kernel_rfl) (fun _ _ _ h => h) (Or.inl ⟨by kernel_rfl, ?_⟩) (by assumption) ?_; rotate_left; focus (intro V9 hS9; go_simp; (try (with_reducible rfl)); done))
  try simp only [Act.put, List.getElem_toArray, List.getElem_cons_succ, List.getElem_cons_zero, List.setIfInBounds_toArray, List.set_cons_succ, List.set_cons_zero]
  (refine wpAnyW_take (i := 9) (v := ?_) rfl (by kernel_rfl) (by kernel_rfl) (by kernel_rfl) (by kernel_rfl) (fun _ _ _ h => h) (Or.inl ⟨by kernel_rfl, ?_⟩) (by assumption) ?_; rotate_left; focus (intro V9 hS9; obtain ⟨_, _, _, t0, t1, t2, t3, t4, hlt⟩ := HCV.out; have t0 := (hS9.cell hlt).trans t0; have t1 := (hS9.cell hlt).trans t1; have t2 := (hS9.cell hlt).trans t2; have t3 := (hS9.cell hlt).trans t3; have t4 := (hS9.cell hlt).trans t4; go_simp; (try (with_reducible rfl)); done))
  try simp only [Act.put, List.getElem_toArray, List.getElem_cons_succ, List.getElem_cons_zero, List.setIfInBounds_toArray, List.set_cons_succ, List.set_cons_zero]
  refine wpAnyW_ready (rs := [10]) (by kernel_rfl) (by simp) ?_
  refine AllReadyW.cons rfl (fun K hK => ?_) AllReadyW.nil
  go_simp
  refine hK.out _ _ ((Below.refl _ _).drew.alloc (Nat.le_refl _) _) (fun _ => ?_)
  clear hK K
  try simp only [Act.put, List.getElem_toArray, List.getElem_cons_succ, List.getElem_cons_zero, List.setIfInBounds_toArray, List.set_cons_succ, List.set_cons_zero]
  refine wpAnyW_ready (rs := [11]) (by kernel_rfl) (by simp) ?_
  refine AllReadyW.consE rfl (by kernel_rfl) (fun K hK => ?_) AllReadyW.nil
  go_simp
  refine hK.out _ _ ?_
  clear hK K
  refine wpAnyW_done (by kernel_rfl) ?_ _
  go_upto_region 8 with (fail)
  refine wp_world (fun X => Blk X V3.heap.size 80 (tokC t) ∧ ZI pb A c T fin W s X) ?_ ?_
  · exact ⟨(Blk.new V3 _ (tokC t)), (HI3.out.tok t).keep (below_drewN (Below.refl _ _) 1)⟩
  have HGP := Lib.hid HCV.out.2.2.1
  clear HI3 HCV hS0 q1 q2 hd
  obtain ⟨g6, hg6⟩ : ∃ g6, V3.heap.size = g6 := ⟨_, rfl⟩
  rw [hg6] at HGP ⊢
  clear hg6
  rintro V4 ⟨hT4, hI4⟩
  have x0 : V4.cell? ⟨g6, 0, none⟩ = some (.int .i64 t.kind) := hT4.cell 0
  have x1 : V4.cell? ⟨g6, 1, none⟩ = some (.int .i64 t.int) := hT4.cell 1
  have x2 : V4.cell? ⟨g6, 2, none⟩ = some (.string ⟨t.text.toArray⟩) := hT4.cell 2
  have d1 : (t.kind == 1) = false := by have := HKD.out.1; simpa using this
  have d2 : (t.kind == 2) = false := by have := HKD.out.2.1; simpa using this
  have d3 : (t.kind == 3) = false := by have := HKD.out.2.2; simpa using this
  go_upto_region 18 with (fail)
  refine wp_world (fun X => ZI pb A c T fin W s X) hI4 ?_
  clear hT4 hI4 x0 x1 x2 d1 d2 d3 HTE HAE HGP hi HKD
  rw [← HPT.out]
  clear HPT
  intro V5 hI5
  go_upto_region 23 with (first
    | (go_at_call 21; with_reducible refine (HF0.out _ hI5.p).mono ?_; rintro e Vc0 ⟨rfl, hpc0, hfc0⟩)
    | (go_at_call 21; with_reducible refine (HF1.out _ hpc0).mono ?_; rintro e Vc1 ⟨rfl, hpc1, hfc1⟩))
  refine wp_world (fun X => ZI pb A c T fin W (nextP s) X) ((hI5.act hpc0 hfc0).act hpc1 hfc1) ?_
  clear hI5 hpc0 hfc0 HF0 hpc1 hfc1 HF1
  intro V6 hI
  go_wp2_with (go_at_call 64; refine (HS2.out _ hI.p).mono ?_; rintro e V7 ⟨B, d, rfl, hrd, hp7, hf7⟩; have hI7 := hI.act hp7 hf7; obtain ⟨z0, z1, z2, z3, z4, z5, z6, f0, f1, f2, f3, f4, f5, f6⟩ := zbx_facts hI7.res)
  have hE := hI7.give (x := ⟨.mk 4 0 [] pl q.1 [] [], B, d, none, 0, none, 0⟩) ⟨hI.off hrd, RdC.nil_ _ _ _ (Nat.zero_le _), RdN.nil_ _ _ _ (Nat.zero_le _)⟩ (put7_fr V7 W.heap.size (.int .i64 4) (.int .i64 0) (.string ⟨#[]⟩) (.int .i64 pl) (.slice B q.1.length d) (.slice none 0 0) (.slice none 0 0))
  refine q_bp_world (fun V => NBx V W.heap.size (⟨.mk 4 0 [] pl q.1 [] [], B, d, none, 0, none, 0⟩ : EN) ∧ (⟨.mk 4 0 [] pl q.1 [] [], B, d, none, 0, none, 0⟩ : EN).Ok (fun k => k < W.heap.size) V ∧ PAt pb A c T fin q.2 V ∧ PFr pb W V) ⟨put7_blk hI7.res _ _ _ _ _ _ _, hE⟩ ?_
  rintro V9 ⟨hB9, e1, e2, e3⟩
  obtain ⟨x0, x1, x2, x3, x4, x5, x6⟩ := hB9.cells
  obtain ⟨y9, hy9⟩ : ∃ y9, (⟨.mk 4 0 [] pl q.1 [] [], B, d, none, 0, none, 0⟩ : EN) = y9 := ⟨_, rfl⟩
  have HY9 : Hid (y9.t = r.1 ∧ q.2 = r.2) := by rw [← hy9]; exact by rw [← HRE.out]; exact ⟨rfl, rfl⟩
  rw [hy9] at x0 x1 x2 x3 x4 x5 x6 e1
  exact bodyPost_ret (v := .agg #[.int .i64 y9.t.kind, .int .i64 y9.t.int, .string ⟨y9.t.name.toArray⟩, .int .i64 y9.t.at_, .slice y9.A y9.t.kids.length y9.c, .slice y9.B y9.t.clauses.length y9.d, .slice y9.C y9.t.body.length y9.e]) (by simp [results, Try.results77, go_sem, x0, x1, x2, x3, x4, x5, x6]) rfl ⟨y9, HY9.out.1, rfl, e1, by rw [← HY9.out.2]; exact e2, e3⟩

set_option maxRecDepth 100000 in
set_option maxHeartbeats 8000000 in
theorem prim_nil {n : Nat} {deep : Nat} {s : PS} {r : ND × PS} {t : Tok} (hdp : deep + (n + 1) ≤ deepB) (he : s.e = 0) (ht : T[s.i]? = some t) (hk : t.kind ≠ 1 ∧ t.kind ≠ 2 ∧ t.kind ≠ 3) (hb0 : isP T sOpen s = false) (hb1 : isP T sLc s = false) (hb2 : isP T sLb s = true) (hbr : isP T sRb (nextP s) = true) (hr : primW T fin (lang T fin n) deep s = some r) (hp : PAt pb A c T fin s W) :
    Calls Try.prog 77 #[.pointer (some ⟨pb, 0, none⟩), .int .i64 (deep : Int)] W (NEnd pb A c T fin W r) := by
  unfold primW at hr
  rw [hb0, if_neg (by simp), hb1, if_neg (by simp), hb2, if_pos rfl] at hr
  have hdq : deep + (n + 1) ≤ 4611686018427387904 := hdp
  have q9 : IntKind.i64.wrap ((deep : Int) + 1) = ((deep + 1 : Nat) : Int) := by rw [IntKind.wrap_i64]; omega
  obtain ⟨pl, hpl⟩ : ∃ pl, placeP T fin s = pl := ⟨_, rfl⟩
  have hpt : pl = ((t.at_ : Nat) : Int) := by rw [← hpl]; unfold placeP; rw [ht]
  try rw [hpl] at hr
  rw [hbr, if_pos rfl] at hr
  have HRE := Lib.hid (Option.some.inj hr)
  have HT9 : Hid (∀ V, PAt pb A c T fin (nextP s) V → Calls Try.prog 21 #[.pointer (some ⟨pb, 0, none⟩), .string ⟨#[93]⟩] V fun r w' => r = .returned (.bool true) ∧ PAt pb A c T fin (nextP (nextP s)) w' ∧ PFr pb V w') := fun V hV => by
    have := take_any hV sRb
    rw [hbr, if_pos rfl] at this
    exact this
  clear hbr
  have HF0 : Hid (∀ V, PAt pb A c T fin s V → Calls Try.prog 21 #[.pointer (some ⟨pb, 0, none⟩), .string ⟨#[40]⟩] V fun r w' => r = .returned (.bool false) ∧ PAt pb A c T fin s w' ∧ PFr pb V w') := fun V hV => by
    have := take_any hV sOpen
    rw [hb0, if_neg (by simp)] at this
    exact this
  have HF1 : Hid (∀ V, PAt pb A c T fin s V → Calls Try.prog 21 #[.pointer (some ⟨pb, 0, none⟩), .string ⟨#[123]⟩] V fun r w' => r = .returned (.bool false) ∧ PAt pb A c T fin s w' ∧ PFr pb V w') := fun V hV => by
    have := take_any hV sLc
    rw [hb1, if_neg (by simp)] at this
    exact this
  have HF2 : Hid (∀ V, PAt pb A c T fin s V → Calls Try.prog 21 #[.pointer (some ⟨pb, 0, none⟩), .string ⟨#[91]⟩] V fun r w' => r = .returned (.bool true) ∧ PAt pb A c T fin (nextP s) w' ∧ PFr pb V w') := fun V hV => by
    have := take_any hV sLb
    rw [hb2, if_pos rfl] at this
    exact this
  clear hb0 hb1 hb2
  have HKD := Lib.hid hk
  clear hk
  have HPT := Lib.hid hpt
  clear hpt hpl
  have HST := Lib.hid (ZI.start hp)
  have hlen := hp.len
  have HPL : Hid (∀ V, PAt pb A c T fin s V → Calls Try.prog 20 #[.pointer (some ⟨pb, 0, none⟩)] V fun e w' => e = .returned (.int .i64 ((t.at_ : Nat) : Int)) ∧ Below V.heap.size V w') := fun V hV => by
    have h9 : placeP T fin s = ((t.at_ : Nat) : Int) := by unfold placeP; rw [ht]
    rw [← h9]
    exact place_any hV
  obtain ⟨hi, hte⟩ := List.getElem?_eq_some_iff.1 ht
  have HTE := Lib.hid hte
  have hd : decide (T.length ≤ s.i) = false := by simpa using hi
  have HE := Lib.hid he
  clear hr he hp ht hte
  go_enter Try.func77, Try.ntmps77
  go_upto_region 1 with (fail)
  refine wp_world (fun V => ZI pb A c T fin W s V) HST.out ?_
  clear HST
  intro V0 hI0
  obtain ⟨c0, c1, c2, c3, c4⟩ := hI0.p.cells
  rw [HE.out] at c3
  go_upto_region 4 with (go_at_call 20; refine (HPL.out _ hI0.p).mono ?_; rintro e V1 ⟨rfl, hb1⟩)
  refine wp_world (fun V => ZI pb A c T fin W s V) (hI0.keep hb1) ?_
  clear hI0 hb1 c0 c1 c2 c3 c4 HPL
  intro V2 hI2
  obtain ⟨c0, c1, c2, c3, c4⟩ := hI2.p.cells
  have HI2 := Lib.hid hI2
  clear hI2
  go_quiet (fail)
  go_wp2
  refine wp_world (fun V => ZI pb A c T fin W s V) (HI2.out.keep (below_drewN (Below.refl _ _) _)) ?_
  clear HI2 c0 c1 c2 c3 c4
  intro V3 hI3
  obtain ⟨c0, c1, c2, c3, c4⟩ := hI3.p.cells
  have q1 : (0 : Int) ≤ (s.i : Int) := by omega
  have q2 : (s.i : Int) < (T.length : Int) := by omega
  have htk := hI3.p.toks.at_ hi
  rw [HTE.out] at htk
  obtain ⟨b, o, hAe, hlt, t0, t1, t2, t3, t4⟩ := htk
  rw [hAe] at c0
  have HCV : Hid (V3.cell? ⟨pb, 0, none⟩ = some (.slice (some ⟨b, o, none⟩) T.length c) ∧ V3.cell? ⟨pb, 1, none⟩ = some (.int .i64 (s.i : Int)) ∧ pb < V3.heap.size ∧ V3.cell? ⟨b, o + s.i * 5, none⟩ = some (.int .i64 t.kind) ∧ V3.cell? ⟨b, o + s.i * 5 + 1, none⟩ = some (.int .i64 t.int) ∧ V3.cell? ⟨b, o + s.i * 5 + 2, none⟩ = some (.string ⟨t.text.toArray⟩) ∧ V3.cell? ⟨b, o + s.i * 5 + 3, none⟩ = some (.int .i64 ((t.at_ : Nat) : Int)) ∧ V3.cell? ⟨b, o + s.i * 5 + 4, none⟩ = some (.int .i64 ((t.fin : Nat) : Int)) ∧ b < V3.heap.size) := ⟨c0, c1, hI3.p.obj.lt, t0, t1, t2, t3, t4, hlt⟩
  have HI3 := Lib.hid hI3
  have HAE := Lib.hid hAe
  clear hI3 c0 c1 c2 c3 c4 t0 t1 t2 t3 t4 hlt hAe
  refine wp_region_W 11 (fun X => Below V3.heap.size V3 X) (by kernel_rfl) ?_ (fun hS0 => ?_)
  · exact (Below.refl _ _).drew
  (refine wpAnyW_take (i := 0) (v := ?_) rfl (by kernel_rfl) (by kernel_rfl) (by kernel_rfl) (by kernel_rfl) (fun _ _ _ h => h) (Or.inl ⟨by kernel_rfl, ?_⟩) (by assumption) ?_; rotate_left; focus (intro V9 hS9; go_simp; (try (with_reducible rfl)); done))
  try simp only [Act.put, List.getElem_toArray, List.getElem_cons_zero, List.setIfInBounds_toArray, List.set_cons_succ, List.set_cons_zero]
  (refine wpAnyW_take (i := 1) (v := ?_) rfl (by kernel_rfl) (by kernel_rfl) (by kernel_rfl) (by kernel_rfl) (fun _ _ _ h => h) (Or.inl ⟨by kernel_rfl, ?_⟩) (by assumption) ?_; rotate_left; focus (intro V9 hS9; go_simp; (try (with_reducible rfl)); done))
  try simp only [Act.put, List.getElem_toArray, List.getElem_cons_succ, List.getElem_cons_zero, List.setIfInBounds_toArray, List.set_cons_succ, List.set_cons_zero]
  (refine wpAnyW_take (i := 2) (v := ?_) rfl (by kernel_rfl) (by kernel_rfl) (by kernel_rfl) (by kernel_rfl) (fun _ _ _ h => h) (Or.inl ⟨by kernel_rfl, ?_⟩) (by assumption) ?_; rotate_left; focus (intro V9 hS9; go_simp; (try (with_reducible rfl)); done))
  try simp only [Act.put, List.getElem_toArray, List.getElem_cons_succ, List.getElem_cons_zero, List.setIfInBounds_toArray, List.set_cons_succ, List.set_cons_zero]
  (refine wpAnyW_take (i := 3) (v := ?_) rfl (by kernel_rfl) (by kernel_rfl) (by kernel_rfl) (by kernel_rfl) (fun _ _ _ h => h) (Or.inl ⟨by kernel_rfl, ?_⟩) (by assumption) ?_; rotate_left; focus (intro V9 hS9; have c0 := (hS9.cell HCV.out.2.2.1).trans HCV.out.1; go_simp; (try (with_reducible rfl)); done))
  try simp only [Act.put, List.getElem_toArray, List.getElem_cons_succ, List.getElem_cons_zero, List.setIfInBounds_toArray, List.set_cons_succ, List.set_cons_zero]
  (refine wpAnyW_take (i := 4) (v := ?_) rfl (by kernel_rfl) (by kernel_rfl) (by kernel_rfl) (by kernel_rfl) (fun _ _ _ h => h) (Or.inl ⟨by kernel_rfl, ?_⟩) (by assumption) ?_; rotate_left; focus (intro V9 hS9; go_simp; (try (with_reducible rfl)); done))
  try simp only [Act.put, List.getElem_toArray, List.getElem_cons_succ, List.getElem_cons_zero, List.setIfInBounds_toArray, List.set_cons_succ, List.set_cons_zero]
  (refine wpAnyW_take (i := 5) (v := ?_) rfl (by kernel_rfl) (by kernel_rfl) (by kernel_rfl) (by kernel_rfl) (fun _ _ _ h => h) (Or.inl ⟨by kernel_rfl, ?_⟩) (by assumption) ?_; rotate_left; focus (intro V9 hS9; go_simp; (try (with_reducible rfl)); done))
  try simp only [Act.put, List.getElem_toArray, List.getElem_cons_succ, List.getElem_cons_zero, List.setIfInBounds_toArray, List.set_cons_succ, List.set_cons_zero]
  (refine wpAnyW_take (i := 6) (v := ?_) rfl (by kernel_rfl) (by kernel_rfl) (by kernel_rfl) (by kernel_rfl) (fun _ _ _ h => h) (Or.inl ⟨by kernel_rfl, ?_⟩) (by assumption) ?_; rotate_left; focus (intro V9 hS9; go_simp; (try (with_reducible rfl)); done))
  try simp only [Act.put, List.getElem_toArray, List.getElem_cons_succ, List.getElem_cons_zero, List.setIfInBounds_toArray, List.set_cons_succ, List.set_cons_zero]
  (refine wpAnyW_take (i := 7) (v := ?_) rfl (by kernel_rfl) (by kernel_rfl) (by kernel_rfl) (by kernel_rfl) (fun _ _ _ h => h) (Or.inl ⟨by kernel_rfl, ?_⟩) (by assumption) ?_; rotate_left; focus (intro V9 hS9; have c1 := (hS9.cell HCV.out.2.2.1).trans HCV.out.2.1; go_simp; (try (with_reducible rfl)); done))
  try simp only [Act.put, List.getElem_toArray, List.getElem_cons_succ, List.getElem_cons_zero, List.setIfInBounds_toArray, List.set_cons_succ, List.set_cons_zero]
  (refine wpAnyW_take (i := 8) (v := ?_) rfl (by kernel_rfl) (by kernel_rfl) (by kernel_rfl) (by kernel_rfl) (fun _ _ _ h => h) (Or.inl ⟨by kernel_rfl, ?_⟩) (by assumption) ?_; rotate_left; focus (intro V9 hS9; go_simp; (try (with_reducible rfl)); done))
  try simp only [Act.put, List.getElem_toArray, List.getElem_cons_succ, List.getElem_cons_zero, List.setIfInBounds_toArray, List.set_cons_succ, List.set_cons_zero]
  (refine wpAnyW_take (i := 9) (v := ?_) rfl (by kernel_rfl) (by kernel_rfl) (by kernel_rfl) (by kernel_rfl) (fun _ _ _ h => h) (Or.inl ⟨by kernel_rfl, ?_⟩) (by assumption) ?_; rotate_left; focus (intro V9 hS9; obtain ⟨_, _, _, t0, t1, t2, t3, t4, hlt⟩ := HCV.out; have t0 := (hS9.cell hlt).trans t0; have t1 := (hS9.cell hlt).trans t1; have t2 := (hS9.cell hlt).trans t2; have t3 := (hS9.cell hlt).trans t3; have t4 := (hS9.cell hlt).trans t4; go_simp; (try (with_reducible rfl)); done))
  try simp only [Act.put, List.getElem_toArray, List.getElem_cons_succ, List.getElem_cons_zero, List.setIfInBounds_toArray, List.set_cons_succ, List.set_cons_zero]
  refine wpAnyW_ready (rs := [10]) (by kernel_rfl) (by simp) ?_
  refine AllReadyW.cons rfl (fun K hK => ?_) AllReadyW.nil
  go_simp
  refine hK.out _ _ ((Below.refl _ _).drew.alloc (Nat.le_refl _) _) (fun _ => ?_)
  clear hK K
  try simp only [Act.put, List.getElem_toArray, List.getElem_cons_succ, List.getElem_cons_zero, List.setIfInBounds_toArray, List.set_cons_succ, List.set_cons_zero]
  refine wpAnyW_ready (rs := [11]) (by kernel_rfl) (by simp) ?_
  refine AllReadyW.consE rfl (by kernel_rfl) (fun K hK => ?_) AllReadyW.nil
  go_simp
  refine hK.out _ _ ?_
  clear hK K
  refine wpAnyW_done (by kernel_rfl) ?_ _
  go_upto_region 8 with (fail)
  refine wp_world (fun X => Blk X V3.heap.size 80 (tokC t) ∧ ZI pb A c T fin W s X) ?_ ?_
  · exact ⟨(Blk.new V3 _ (tokC t)), (HI3.out.tok t).keep (below_drewN (Below.refl _ _) 1)⟩
  have HGP := Lib.hid HCV.out.2.2.1
  clear HI3 HCV hS0 q1 q2 hd
  obtain ⟨g6, hg6⟩ : ∃ g6, V3.heap.size = g6 := ⟨_, rfl⟩
  rw [hg6] at HGP ⊢
  clear hg6
  rintro V4 ⟨hT4, hI4⟩
  have x0 : V4.cell? ⟨g6, 0, none⟩ = some (.int .i64 t.kind) := hT4.cell 0
  have x1 : V4.cell? ⟨g6, 1, none⟩ = some (.int .i64 t.int) := hT4.cell 1
  have x2 : V4.cell? ⟨g6, 2, none⟩ = some (.string ⟨t.text.toArray⟩) := hT4.cell 2
  have d1 : (t.kind == 1) = false := by have := HKD.out.1; simpa using this
  have d2 : (t.kind == 2) = false := by have := HKD.out.2.1; simpa using this
  have d3 : (t.kind == 3) = false := by have := HKD.out.2.2; simpa using this
  go_upto_region 18 with (fail)
  refine wp_world (fun X => ZI pb A c T fin W s X) hI4 ?_
  clear hT4 hI4 x0 x1 x2 d1 d2 d3 HTE HAE HGP hi HKD
  rw [← HPT.out]
  clear HPT
  intro V5 hI5
  go_upto_region 25 with (first
    | (go_at_call 21; with_reducible refine (HF0.out _ hI5.p).mono ?_; rintro e Vc0 ⟨rfl, hpc0, hfc0⟩)
    | (go_at_call 21; with_reducible refine (HF1.out _ hpc0).mono ?_; rintro e Vc1 ⟨rfl, hpc1, hfc1⟩)
    | (go_at_call 21; with_reducible refine (HF2.out _ hpc1).mono ?_; rintro e Vc2 ⟨rfl, hpc2, hfc2⟩))
  refine wp_world (fun X => ZI pb A c T fin W (nextP s) X) (((hI5.act hpc0 hfc0).act hpc1 hfc1).act hpc2 hfc2) ?_
  clear hI5 hpc0 hfc0 HF0 hpc1 hfc1 HF1 hpc2 hfc2 HF2
  intro V6 hI
  go_upto_region 26 with (go_at_call 21; refine (HT9.out _ hI.p).mono ?_; rintro e V7 ⟨rfl, hp7, hf7⟩)
  refine wp_world (fun V => ZI pb A c T fin W (nextP (nextP s)) V) (hI.act hp7 hf7) ?_
  clear hI hp7 hf7 HT9
  intro V hI
  obtain ⟨z0, z1, z2, z3, z4, z5, z6, f0, f1, f2, f3, f4, f5, f6⟩ := zbx_facts hI.res
  go_wp2
  have hE := hI.give (leaf_ok 5 0 [] pl) (put7_fr V W.heap.size (.int .i64 5) (.int .i64 0) (.string ⟨#[]⟩) (.int .i64 pl) (.slice none 0 0) (.slice none 0 0) (.slice none 0 0))
  refine q_bp_world (fun V => NBx V W.heap.size (⟨.mk 5 0 [] pl [] [] [], none, 0, none, 0, none, 0⟩ : EN) ∧ (⟨.mk 5 0 [] pl [] [] [], none, 0, none, 0, none, 0⟩ : EN).Ok (fun k => k < W.heap.size) V ∧ PAt pb A c T fin (nextP (nextP s)) V ∧ PFr pb W V) ⟨put7_blk hI.res _ _ _ _ _ _ _, hE⟩ ?_
  rintro V9 ⟨hB9, e1, e2, e3⟩
  obtain ⟨x0, x1, x2, x3, x4, x5, x6⟩ := hB9.cells
  obtain ⟨y9, hy9⟩ : ∃ y9, (⟨.mk 5 0 [] pl [] [] [], none, 0, none, 0, none, 0⟩ : EN) = y9 := ⟨_, rfl⟩
  have HY9 : Hid (y9.t = r.1 ∧ (nextP (nextP s)) = r.2) := by rw [← hy9]; exact by rw [← HRE.out]; exact ⟨rfl, rfl⟩
  rw [hy9] at x0 x1 x2 x3 x4 x5 x6 e1
  exact bodyPost_ret (v := .agg #[.int .i64 y9.t.kind, .int .i64 y9.t.int, .string ⟨y9.t.name.toArray⟩, .int .i64 y9.t.at_, .slice y9.A y9.t.kids.length y9.c, .slice y9.B y9.t.clauses.length y9.d, .slice y9.C y9.t.body.length y9.e]) (by simp [results, Try.results77, go_sem, x0, x1, x2, x3, x4, x5, x6]) rfl ⟨y9, HY9.out.1, rfl, e1, by rw [← HY9.out.2]; exact e2, e3⟩

set_option maxRecDepth 100000 in
set_option maxHeartbeats 8000000 in
theorem prim_lb {n : Nat} {deep : Nat} {s : PS} {r : ND × PS} {t : Tok} (HRS : NodeOk pb A c T fin 78 Lang.rest n) (hdp : deep + (n + 1) ≤ deepB) (he : s.e = 0) (ht : T[s.i]? = some t) (hk : t.kind ≠ 1 ∧ t.kind ≠ 2 ∧ t.kind ≠ 3) (hb0 : isP T sOpen s = false) (hb1 : isP T sLc s = false) (hb2 : isP T sLb s = true) (hbr : isP T sRb (nextP s) = false) (hr : primW T fin (lang T fin n) deep s = some r) (hp : PAt pb A c T fin s W) :
    Calls Try.prog 77 #[.pointer (some ⟨pb, 0, none⟩), .int .i64 (deep : Int)] W (NEnd pb A c T fin W r) := by
  unfold primW at hr
  rw [hb0, if_neg (by simp), hb1, if_neg (by simp), hb2, if_pos rfl] at hr
  have hdq : deep + (n + 1) ≤ 4611686018427387904 := hdp
  have q9 : IntKind.i64.wrap ((deep : Int) + 1) = ((deep + 1 : Nat) : Int) := by rw [IntKind.wrap_i64]; omega
  obtain ⟨pl, hpl⟩ : ∃ pl, placeP T fin s = pl := ⟨_, rfl⟩
  have hpt : pl = ((t.at_ : Nat) : Int) := by rw [← hpl]; unfold placeP; rw [ht]
  try rw [hpl] at hr
  rw [hbr, if_neg (by simp)] at hr
  obtain ⟨q, hq, hl⟩ := bind_inv hr
  have HRE := Lib.hid (Option.some.inj hl)
  have HS2 : Hid (∀ V, PAt pb A c T fin (nextP s) V → Calls Try.prog 78 #[.pointer (some ⟨pb, 0, none⟩), .int .i64 (((deep + 1 : Nat) : Nat) : Int)] V (NEnd pb A c T fin V q)) := fun V hV => HRS (deep + 1) _ V q (by omega) hq hV
  have HT9 : Hid (∀ V, PAt pb A c T fin (nextP s) V → Calls Try.prog 21 #[.pointer (some ⟨pb, 0, none⟩), .string ⟨#[93]⟩] V fun r w' => r = .returned (.bool false) ∧ PAt pb A c T fin (nextP s) w' ∧ PFr pb V w') := fun V hV => by
    have := take_any hV sRb
    rw [hbr, if_neg (by simp)] at this
    exact this
  clear hbr hq hl HRS
  have HF0 : Hid (∀ V, PAt pb A c T fin s V → Calls Try.prog 21 #[.pointer (some ⟨pb, 0, none⟩), .string ⟨#[40]⟩] V fun r w' => r = .returned (.bool false) ∧ PAt pb A c T fin s w' ∧ PFr pb V w') := fun V hV => by
    have := take_any hV sOpen
    rw [hb0, if_neg (by simp)] at this
    exact this
  have HF1 : Hid (∀ V, PAt pb A c T fin s V → Calls Try.prog 21 #[.pointer (some ⟨pb, 0, none⟩), .string ⟨#[123]⟩] V fun r w' => r = .returned (.bool false) ∧ PAt pb A c T fin s w' ∧ PFr pb V w') := fun V hV => by
    have := take_any hV sLc
    rw [hb1, if_neg (by simp)] at this
    exact this
  have HF2 : Hid (∀ V, PAt pb A c T fin s V → Calls Try.prog 21 #[.pointer (some ⟨pb, 0, none⟩), .string ⟨#[91]⟩] V fun r w' => r = .returned (.bool true) ∧ PAt pb A c T fin (nextP s) w' ∧ PFr pb V w') := fun V hV => by
    have := take_any hV sLb
    rw [hb2, if_pos rfl] at this
    exact this
  clear hb0 hb1 hb2
  have HKD := Lib.hid hk
  clear hk
  have HPT := Lib.hid hpt
  clear hpt hpl
  have HST := Lib.hid (ZI.start hp)
  have hlen := hp.len
  have HPL : Hid (∀ V, PAt pb A c T fin s V → Calls Try.prog 20 #[.pointer (some ⟨pb, 0, none⟩)] V fun e w' => e = .returned (.int .i64 ((t.at_ : Nat) : Int)) ∧ Below V.heap.size V w') := fun V hV => by
    have h9 : placeP T fin s = ((t.at_ : Nat) : Int) := by unfold placeP; rw [ht]
    rw [← h9]
    exact place_any hV
  obtain ⟨hi, hte⟩ := List.getElem?_eq_some_iff.1 ht
  have HTE := Lib.hid hte
  have hd : decide (T.length ≤ s.i) = false := by simpa using hi
  have HE := Lib.hid he
  clear hr he hp ht hte
  go_enter Try.func77, Try.ntmps77
  go_upto_region 1 with (fail)
  refine wp_world (fun V => ZI pb A c T fin W s V) HST.out ?_
  clear HST
  intro V0 hI0
  obtain ⟨c0, c1, c2, c3, c4⟩ := hI0.p.cells
  rw [HE.out] at c3
  go_upto_region 4 with (go_at_call 20; refine (HPL.out _ hI0.p).mono ?_; rintro e V1 ⟨rfl, hb1⟩)
  refine wp_world (fun V => ZI pb A c T fin W s V) (hI0.keep hb1) ?_
  clear hI0 hb1 c0 c1 c2 c3 c4 HPL
  intro V2 hI2
  obtain ⟨c0, c1, c2, c3, c4⟩ := hI2.p.cells
  have HI2 := Lib.hid hI2
  clear hI2
  go_quiet (fail)
  go_wp2
  refine wp_world (fun V => ZI pb A c T fin W s V) (HI2.out.keep (below_drewN (Below.refl _ _) _)) ?_
  clear HI2 c0 c1 c2 c3 c4
  intro V3 hI3
  obtain ⟨c0, c1, c2, c3, c4⟩ := hI3.p.cells
  have q1 : (0 : Int) ≤ (s.i : Int) := by omega
  have q2 : (s.i : Int) < (T.length : Int) := by omega
  have htk := hI3.p.toks.at_ hi
  rw [HTE.out] at htk
  obtain ⟨b, o, hAe, hlt, t0, t1, t2, t3, t4⟩ := htk
  rw [hAe] at c0
  have HCV : Hid (V3.cell? ⟨pb, 0, none⟩ = some (.slice (some ⟨b, o, none⟩) T.length c) ∧ V3.cell? ⟨pb, 1, none⟩ = some (.int .i64 (s.i : Int)) ∧ pb < V3.heap.size ∧ V3.cell? ⟨b, o + s.i * 5, none⟩ = some (.int .i64 t.kind) ∧ V3.cell? ⟨b, o + s.i * 5 + 1, none⟩ = some (.int .i64 t.int) ∧ V3.cell? ⟨b, o + s.i * 5 + 2, none⟩ = some (.string ⟨t.text.toArray⟩) ∧ V3.cell? ⟨b, o + s.i * 5 + 3, none⟩ = some (.int .i64 ((t.at_ : Nat) : Int)) ∧ V3.cell? ⟨b, o + s.i * 5 + 4, none⟩ = some (.int .i64 ((t.fin : Nat) : Int)) ∧ b < V3.heap.size) := ⟨c0, c1, hI3.p.obj.lt, t0, t1, t2, t3, t4, hlt⟩
  have HI3 := Lib.hid hI3
  have HAE := Lib.hid hAe
  clear hI3 c0 c1 c2 c3 c4 t0 t1 t2 t3 t4 hlt hAe
  refine wp_region_W 11 (fun X => Below V3.heap.size V3 X) (by kernel_rfl) ?_ (fun hS0 => ?_)
  · exact (Below.refl _ _).drew
  (refine wpAnyW_take (i := 0) (v := ?_) rfl (by kernel_rfl) (by kernel_rfl) (by kernel_rfl) (by kernel_rfl) (fun _ _ _ h => h) (Or.inl ⟨by kernel_rfl, ?_⟩) (by assumption) ?_; rotate_left; focus (intro V9 hS9; go_simp; (try (with_reducible rfl)); done))
  try simp only [Act.put, List.getElem_toArray, List.getElem_cons_zero, List.setIfInBounds_toArray, List.set_cons_succ, List.set_cons_zero]
  (refine wpAnyW_take (i := 1) (v := ?_) rfl (by kernel_rfl) (by kernel_rfl) (by kernel_rfl) (by kernel_rfl) (fun _ _ _ h => h) (Or.inl ⟨by kernel_rfl, ?_⟩) (by assumption) ?_; rotate_left; focus (intro V9 hS9; go_simp; (try (with_reducible rfl)); done))
  try simp only [Act.put, List.getElem_toArray, List.getElem_cons_succ, List.getElem_cons_zero, List.setIfInBounds_toArray, List.set_cons_succ, List.set_cons_zero]
  (refine wpAnyW_take (i := 2) (v := ?_) rfl (by kernel_rfl) (by kernel_rfl) (by kernel_rfl) (by kernel_rfl) (fun _ _ _ h => h) (Or.inl ⟨by kernel_rfl, ?_⟩) (by assumption) ?_; rotate_left; focus (intro V9 hS9; go_simp; (try (with_reducible rfl)); done))
  try simp only [Act.put, List.getElem_toArray, List.getElem_cons_succ, List.getElem_cons_zero, List.setIfInBounds_toArray, List.set_cons_succ, List.set_cons_zero]
  (refine wpAnyW_take (i := 3) (v := ?_) rfl (by kernel_rfl) (by kernel_rfl) (by kernel_rfl) (by kernel_rfl) (fun _ _ _ h => h) (Or.inl ⟨by kernel_rfl, ?_⟩) (by assumption) ?_; rotate_left; focus (intro V9 hS9; have c0 := (hS9.cell HCV.out.2.2.1).trans HCV.out.1; go_simp; (try (with_reducible rfl)); done))
  try simp only [Act.put, List.getElem_toArray, List.getElem_cons_succ, List.getElem_cons_zero, List.setIfInBounds_toArray, List.set_cons_succ, List.set_cons_zero]
  (refine wpAnyW_take (i := 4) (v := ?_) rfl (by kernel_rfl) (by kernel_rfl) (by kernel_rfl) (by kernel_rfl) (fun _ _ _ h => h) (Or.inl ⟨by kernel_rfl, ?_⟩) (by assumption) ?_; rotate_left; focus (intro V9 hS9; go_simp; (try (with_reducible rfl)); done))
  try simp only [Act.put, List.getElem_toArray, List.getElem_cons_succ, List.getElem_cons_zero, List.setIfInBounds_toArray, List.set_cons_succ, List.set_cons_zero]
  (refine wpAnyW_take (i := 5) (v := ?_) rfl (by kernel_rfl) (by kernel_rfl) (by kernel_rfl) (by kernel_rfl) (fun _ _ _ h => h) (Or.inl ⟨by kernel_rfl, ?_⟩) (by assumption) ?_; rotate_left; focus (intro V9 hS9; go_simp; (try (with_reducible rfl)); done))
  try simp only [Act.put, List.getElem_toArray, List.getElem_cons_succ, List.getElem_cons_zero, List.setIfInBounds_toArray, List.set_cons_succ, List.set_cons_zero]
  (refine wpAnyW_take (i := 6) (v := ?_) rfl (by kernel_rfl) (by kernel_rfl) (by kernel_rfl) (by kernel_rfl) (fun _ _ _ h => h) (Or.inl ⟨by kernel_rfl, ?_⟩) (by assumption) ?_; rotate_left; focus (intro V9 hS9; go_simp; (try (with_reducible rfl)); done))
  try simp only [Act.put, List.getElem_toArray, List.getElem_cons_succ, List.getElem_cons_zero, List.setIfInBounds_toArray, List.set_cons_succ, List.set_cons_zero]
  (refine wpAnyW_take (i := 7) (v := ?_) rfl (by kernel_rfl) (by kernel_rfl) (by kernel_rfl) (by kernel_rfl) (fun _ _ _ h => h) (Or.inl ⟨by kernel_rfl, ?_⟩) (by assumption) ?_; rotate_left; focus (intro V9 hS9; have c1 := (hS9.cell HCV.out.2.2.1).trans HCV.out.2.1; go_simp; (try (with_reducible rfl)); done))
  try simp only [Act.put, List.getElem_toArray, List.getElem_cons_succ, List.getElem_cons_zero, List.setIfInBounds_toArray, List.set_cons_succ, List.set_cons_zero]
  (refine wpAnyW_take (i := 8) (v := ?_) rfl (by kernel_rfl) (by kernel_rfl) (by kernel_rfl) (by kernel_rfl) (fun _ _ _ h => h) (Or.inl ⟨by kernel_rfl, ?_⟩) (by assumption) ?_; rotate_left; focus (intro V9 hS9; go_simp; (try (with_reducible rfl)); done))
  try simp only [Act.put, List.getElem_toArray, List.getElem_cons_succ, List.getElem_cons_zero, List.setIfInBounds_toArray, List.set_cons_succ, List.set_cons_zero]
  (refine wpAnyW_take (i := 9) (v := ?_) rfl (by kernel_rfl) (by kernel_rfl) (by kernel_rfl) (by kernel_rfl) (fun _ _ _ h => h) (Or.inl ⟨by kernel_rfl, ?_⟩) (by assumption) ?_; rotate_left; focus (intro V9 hS9; obtain ⟨_, _, _, t0, t1, t2, t3, t4, hlt⟩ := HCV.out; have t0 := (hS9.cell hlt).trans t0; have t1 := (hS9.cell hlt).trans t1; have t2 := (hS9.cell hlt).trans t2; have t3 := (hS9.cell hlt).trans t3; have t4 := (hS9.cell hlt).trans t4; go_simp; (try (with_reducible rfl)); done))
  try simp only [Act.put, List.getElem_toArray, List.getElem_cons_succ, List.getElem_cons_zero, List.setIfInBounds_toArray, List.set_cons_succ, List.set_cons_zero]
  refine wpAnyW_ready (rs := [10]) (by kernel_rfl) (by simp) ?_
  refine AllReadyW.cons rfl (fun K hK => ?_) AllReadyW.nil
  go_simp
  refine hK.out _ _ ((Below.refl _ _).drew.alloc (Nat.le_refl _) _) (fun _ => ?_)
  clear hK K
  try simp only [Act.put, List.getElem_toArray, List.getElem_cons_succ, List.getElem_cons_zero, List.setIfInBounds_toArray, List.set_cons_succ, List.set_cons_zero]
  refine wpAnyW_ready (rs := [11]) (by kernel_rfl) (by simp) ?_
  refine AllReadyW.consE rfl (by kernel_rfl) (fun K hK => ?_) AllReadyW.nil
  go_simp
  refine hK.out _ _ ?_
  clear hK K
  refine wpAnyW_done (by kernel_rfl) ?_ _
  go_upto_region 8 with (fail)
  refine wp_world (fun X => Blk X V3.heap.size 80 (tokC t) ∧ ZI pb A c T fin W s X) ?_ ?_
  · exact ⟨(Blk.new V3 _ (tokC t)), (HI3.out.tok t).keep (below_drewN (Below.refl _ _) 1)⟩
  have HGP := Lib.hid HCV.out.2.2.1
  clear HI3 HCV hS0 q1 q2 hd
  obtain ⟨g6, hg6⟩ : ∃ g6, V3.heap.size = g6 := ⟨_, rfl⟩
  rw [hg6] at HGP ⊢
  clear hg6
  rintro V4 ⟨hT4, hI4⟩
  have x0 : V4.cell? ⟨g6, 0, none⟩ = some (.int .i64 t.kind) := hT4.cell 0
  have x1 : V4.cell? ⟨g6, 1, none⟩ = some (.int .i64 t.int) := hT4.cell 1
  have x2 : V4.cell? ⟨g6, 2, none⟩ = some (.string ⟨t.text.toArray⟩) := hT4.cell 2
  have d1 : (t.kind == 1) = false := by have := HKD.out.1; simpa using this
  have d2 : (t.kind == 2) = false := by have := HKD.out.2.1; simpa using this
  have d3 : (t.kind == 3) = false := by have := HKD.out.2.2; simpa using this
  go_upto_region 18 with (fail)
  refine wp_world (fun X => ZI pb A c T fin W s X) hI4 ?_
  clear hT4 hI4 x0 x1 x2 d1 d2 d3 HTE HAE HGP hi HKD
  rw [← HPT.out]
  clear HPT
  intro V5 hI5
  go_upto_region 25 with (first
    | (go_at_call 21; with_reducible refine (HF0.out _ hI5.p).mono ?_; rintro e Vc0 ⟨rfl, hpc0, hfc0⟩)
    | (go_at_call 21; with_reducible refine (HF1.out _ hpc0).mono ?_; rintro e Vc1 ⟨rfl, hpc1, hfc1⟩)
    | (go_at_call 21; with_reducible refine (HF2.out _ hpc1).mono ?_; rintro e Vc2 ⟨rfl, hpc2, hfc2⟩))
  refine wp_world (fun X => ZI pb A c T fin W (nextP s) X) (((hI5.act hpc0 hfc0).act hpc1 hfc1).act hpc2 hfc2) ?_
  clear hI5 hpc0 hfc0 HF0 hpc1 hfc1 HF1 hpc2 hfc2 HF2
  intro V6 hI
  go_upto_region 28 with (first
    | (go_at_call 21; refine (HT9.out _ hI.p).mono ?_; rintro e V7 ⟨rfl, hp6, hf6⟩; have hI6 := hI.act hp6 hf6)
    | (go_at_call 78; refine (HS2.out _ hI6.p).mono ?_; rintro e V7 ⟨x, hx, rfl, hok, hp7, hf7⟩; replace hx := Lib.hid hx))
  have hI8 := (hI6.act hp7 hf7).make (ok_le hok hI6.lt)
  obtain ⟨g, hg⟩ : ∃ g, V7.heap.size = g := ⟨_, rfl⟩
  rw [hg] at hI8 ⊢
  refine wp_world (fun V => BinI pb A c T fin W g x q.2 V) hI8 ?_
  clear hI8 hI6 hp6 hf6 hI hok hp7 hf7 hg HS2 HT9
  intro V8 hI8
  have c3 := hI8.a.cell 3
  have fz := hI8.a.frozen 3
  go_upto_region 29 with (fail)
  have hJ := hI8.put (y := ⟨.mk x.t.kind x.t.int x.t.name pl x.t.kids x.t.clauses x.t.body, x.A, x.c, x.B, x.d, x.C, x.e⟩) ⟨hI8.ok.kids, hI8.ok.clauses, hI8.ok.body⟩ (setC_fr V8 g 3 (.int .i64 pl)) (hI8.a.set_ 3 (.int .i64 pl))
  refine wp_world (fun V => BinI pb A c T fin W g ⟨.mk x.t.kind x.t.int x.t.name pl x.t.kids x.t.clauses x.t.body, x.A, x.c, x.B, x.d, x.C, x.e⟩ q.2 V) hJ ?_
  clear hJ hI8 c3 fz
  intro V9 hI
  obtain ⟨y, hy⟩ : ∃ y : EN, (⟨.mk x.t.kind x.t.int x.t.name pl x.t.kids x.t.clauses x.t.body, x.A, x.c, x.B, x.d, x.C, x.e⟩ : EN) = y := ⟨_, rfl⟩
  have HY9 : Hid (y.t = r.1 ∧ q.2 = r.2) := by rw [← hy]; exact by rw [← HRE.out, ← hx.out, withAt_eq]; exact ⟨rfl, rfl⟩
  rw [hy] at hI
  clear hy
  obtain ⟨a0, a1, a2, a3, a4, a5, a6⟩ := hI.a.cells
  obtain ⟨z0, z1, z2, z3, z4, z5, z6, f0, f1, f2, f3, f4, f5, f6⟩ := zbx_facts hI.res
  go_wp2
  refine q_bp_world (fun V => NBx V W.heap.size y ∧ Fr (fun k => k = W.heap.size) V9 V) ⟨put7_blk hI.res _ _ _ _ _ _ _, put7_fr _ _ _ _ _ _ _ _ _⟩ ?_
  rintro V10 ⟨hB6, hF6⟩
  obtain ⟨x0, x1, x2, x3, x4, x5, x6⟩ := hB6.cells
  obtain ⟨e1, e2, e3⟩ := hI.fin_ hF6
  exact bodyPost_ret (v := .agg #[.int .i64 y.t.kind, .int .i64 y.t.int, .string ⟨y.t.name.toArray⟩, .int .i64 y.t.at_, .slice y.A y.t.kids.length y.c, .slice y.B y.t.clauses.length y.d, .slice y.C y.t.body.length y.e]) (by simp [results, Try.results77, go_sem, x0, x1, x2, x3, x4, x5, x6]) rfl ⟨y, HY9.out.1, rfl, e1, by rw [← HY9.out.2]; exact e2, e3⟩

end
end
end Go.Proofs.Ythhindnjnijglaa
