/- Layer 11: the walk of prim: case, receive, try, no word. Layer 11: the walk of prim: receive. -/
import Derived.Test.YthhindnjnijglaaPaO
namespace Go.Proofs.Ythhindnjnijglaa
section
open Go.RowKit
set_option linter.unusedVariables false

section
variable {pb : Nat} {A : Option Addr} {c : Nat} {T : List Tok} {fin : Nat} {W : World}

set_option maxRecDepth 100000 in
set_option maxHeartbeats 8000000 in
theorem prim_case {n : Nat} {deep : Nat} {s : PS} {r : ND × PS} {t : Tok} (HE : NodeOk pb A c T fin 10 Lang.expr n) (HA : ArmsOk pb A c T fin n) (hdp : deep + (n + 1) ≤ deepB) (he : s.e = 0) (ht : T[s.i]? = some t) (hk : t.kind ≠ 1 ∧ t.kind ≠ 2 ∧ t.kind ≠ 3) (hb0 : isP T sOpen s = false) (hb1 : isP T sLc s = false) (hb2 : isP T sLb s = false) (hb3 : isP T sFun s = false) (hb4 : isP T sCase s = true) (hr : primW T fin (lang T fin n) deep s = some r) (hp : PAt pb A c T fin s W) :
    Calls Try.prog 77 #[.pointer (some ⟨pb, 0, none⟩), .int .i64 (deep : Int)] W (NEnd pb A c T fin W r) := by
  unfold primW at hr
  rw [hb0, if_neg (by simp), hb1, if_neg (by simp), hb2, if_neg (by simp), hb3, if_neg (by simp), hb4, if_pos rfl] at hr
  have hdq : deep + (n + 1) ≤ 4611686018427387904 := hdp
  have q9 : IntKind.i64.wrap ((deep : Int) + 1) = ((deep + 1 : Nat) : Int) := by rw [IntKind.wrap_i64]; omega
  obtain ⟨pl, hpl⟩ : ∃ pl, placeP T fin s = pl := ⟨_, rfl⟩
  have hpt : pl = ((t.at_ : Nat) : Int) := by rw [← hpl]; unfold placeP; rw [ht]
  try rw [hpl] at hr
  obtain ⟨q, hq, hl⟩ := bind_inv hr
  obtain ⟨q2, hq2, hl⟩ := bind_inv hl
  have HRE := Lib.hid (Option.some.inj hl)
  have HS2 : Hid (∀ V, PAt pb A c T fin (nextP s) V → Calls Try.prog 10 #[.pointer (some ⟨pb, 0, none⟩), .int .i64 (((deep + 1 : Nat) : Nat) : Int)] V (NEnd pb A c T fin V q)) := fun V hV => HE (deep + 1) _ V q (by omega) hq hV
  have HS3 : Hid (∀ V, PAt pb A c T fin (mustP T fin sOf q.2) V → Calls Try.prog 79 #[.pointer (some ⟨pb, 0, none⟩), .int .i64 (((deep + 1 : Nat) : Nat) : Int)] V (KEnd pb A c T fin V q2)) := fun V hV => HA (deep + 1) _ V q2 (by omega) hq2 hV
  have HMO : Hid (∀ V, PAt pb A c T fin q.2 V → Calls Try.prog 26 #[.pointer (some ⟨pb, 0, none⟩), .string ⟨#[111, 102]⟩] V fun r w' => r = .returned (.tuple #[]) ∧ PAt pb A c T fin (mustP T fin sOf q.2) w' ∧ PFr pb V w') := fun V hV => must_any hV sOf
  have HME : Hid (∀ V, PAt pb A c T fin q2.2 V → Calls Try.prog 26 #[.pointer (some ⟨pb, 0, none⟩), .string ⟨#[101, 110, 100]⟩] V fun r w' => r = .returned (.tuple #[]) ∧ PAt pb A c T fin (mustP T fin sEnd q2.2) w' ∧ PFr pb V w') := fun V hV => must_any hV sEnd
  clear hq hq2 hl HE HA
  have HF0 : Hid (∀ V, PAt pb A c T fin s V → Calls Try.prog 21 #[.pointer (some ⟨pb, 0, none⟩), .string ⟨#[40]⟩] V fun r w' => r = .returned (.bool false) ∧ PAt pb A c T fin s w' ∧ PFr pb V w') := fun V hV => by
    have := take_any hV sOpen
    rw [hb0, if_neg (by simp)] at this
    exact this
  have HF1 : Hid (∀ V, PAt pb A c T fin s V → Calls Try.prog 21 #[.pointer (some ⟨pb, 0, none⟩), .string ⟨#[123]⟩] V fun r w' => r = .returned (.bool false) ∧ PAt pb A c T fin s w' ∧ PFr pb V w') := fun V hV => by
    have := take_any hV sLc
    rw [hb1, if_neg (by simp)] at this
    exact this
  have HF2 : Hid (∀ V, PAt pb A c T fin s V → Calls Try.prog 21 #[.pointer (some ⟨pb, 0, none⟩), .string ⟨#[91]⟩] V fun r w' => r = .returned (.bool false) ∧ PAt pb A c T fin s w' ∧ PFr pb V w') := fun V hV => by
    have := take_any hV sLb
    rw [hb2, if_neg (by simp)] at this
    exact this
  have HF3 : Hid (∀ V, PAt pb A c T fin s V → Calls Try.prog 21 #[.pointer (some ⟨pb, 0, none⟩), .string ⟨#[102, 117, 110]⟩] V fun r w' => r = .returned (.bool false) ∧ PAt pb A c T fin s w' ∧ PFr pb V w') := fun V hV => by
    have := take_any hV sFun
    rw [hb3, if_neg (by simp)] at this
    exact this
  have HF4 : Hid (∀ V, PAt pb A c T fin s V → Calls Try.prog 21 #[.pointer (some ⟨pb, 0, none⟩), .string ⟨#[99, 97, 115, 101]⟩] V fun r w' => r = .returned (.bool true) ∧ PAt pb A c T fin (nextP s) w' ∧ PFr pb V w') := fun V hV => by
    have := take_any hV sCase
    rw [hb4, if_pos rfl] at this
    exact this
  clear hb0 hb1 hb2 hb3 hb4
  have HKD := Lib.hid hk
  clear hk
  have HPT := Lib.hid hpt
  clear hpt hpl
  have HST := Lib.hid (ZI.start hp)
  have hlen := hp.len
  have HPL : Hid (∀ V, PAt pb A c T fin s V → Calls Try.prog 20 #[.pointer (some ⟨pb, 0, none⟩)] V fun e w' => e = .returned (.int .i64 ((t.at_ : Nat) : Int)) ∧ Below V.heap.size V w') := fun V hV => by
    have h9 : placeP T fin s = ((t.at_ : Nat) : Int) := by unfold placeP; rw [ht]
    rw [← h9]
    exact place_any hV
  obtain ⟨hi, hte⟩ := List.getElem?_eq_some_iff.1 ht
  have HTE := Lib.hid hte
  have hd : decide (T.length ≤ s.i) = false := by simpa using hi
  have HE := Lib.hid he
  clear hr he hp ht hte
  go_enter Try.func77, Try.ntmps77
  go_upto_region 1 with (fail)
  refine wp_world (fun V => ZI pb A c T fin W s V) HST.out ?_
  clear HST
  intro V0 hI0
  obtain ⟨c0, c1, c2, c3, c4⟩ := hI0.p.cells
  rw [HE.out] at c3
  go_upto_region 4 with (go_at_call 20; refine (HPL.out _ hI0.p).mono ?_; rintro e V1 ⟨rfl, hb1⟩)
  refine wp_world (fun V => ZI pb A c T fin W s V) (hI0.keep hb1) ?_
  clear hI0 hb1 c0 c1 c2 c3 c4 HPL
  intro V2 hI2
  obtain ⟨c0, c1, c2, c3, c4⟩ := hI2.p.cells
  have HI2 := Lib.hid hI2
  clear hI2
  go_quiet (fail)
  go_wp2
  refine wp_world (fun V => ZI pb A c T fin W s V) (HI2.out.keep (below_drewN (Below.refl _ _) _)) ?_
  clear HI2 c0 c1 c2 c3 c4
  intro V3 hI3
  obtain ⟨c0, c1, c2, c3, c4⟩ := hI3.p.cells
  have q1 : (0 : Int) ≤ (s.i : Int) := by omega
  have q2 : (s.i : Int) < (T.length : Int) := by omega
  have htk := hI3.p.toks.at_ hi
  rw [HTE.out] at htk
  obtain ⟨b, o, hAe, hlt, t0, t1, t2, t3, t4⟩ := htk
  rw [hAe] at c0
  have HCV : Hid (V3.cell? ⟨pb, 0, none⟩ = some (.slice (some ⟨b, o, none⟩) T.length c) ∧ V3.cell? ⟨pb, 1, none⟩ = some (.int .i64 (s.i : Int)) ∧ pb < V3.heap.size ∧ V3.cell? ⟨b, o + s.i * 5, none⟩ = some (.int .i64 t.kind) ∧ V3.cell? ⟨b, o + s.i * 5 + 1, none⟩ = some (.int .i64 t.int) ∧ V3.cell? ⟨b, o + s.i * 5 + 2, none⟩ = some (.string ⟨t.text.toArray⟩) ∧ V3.cell? ⟨b, o + s.i * 5 + 3, none⟩ = some (.int .i64 ((t.at_ : Nat) : Int)) ∧ V3.cell? ⟨b, o + s.i * 5 + 4, none⟩ = some (.int .i64 ((t.fin : Nat) : Int)) ∧ b < V3.heap.size) := ⟨c0, c1, hI3.p.obj.lt, t0, t1, t2, t3, t4, hlt⟩
  have HI3 := Lib.hid hI3
  have HAE := Lib.hid hAe
  clear hI3 c0 c1 c2 c3 c4 t0 t1 t2 t3 t4 hlt hAe
  refine wp_region_W 11 (fun X => Below V3.heap.size V3 X) (by kernel_rfl) ?_ (fun hS0 => ?_)
  · exact (Below.refl _ _).drew
  (refine wpAnyW_take (i := 0) (v := ?_) rfl (by kernel_rfl) (by kernel_rfl) (by kernel_rfl) (by kernel_rfl) (fun _ _ _ h => h) (Or.inl ⟨by kernel_rfl, ?_⟩) (by assumption) ?_; rotate_left; focus (intro V9 hS9; go_simp; (try (with_reducible rfl)); done))
  try simp only [Act.put, List.getElem_toArray, List.getElem_cons_zero, List.setIfInBounds_toArray, List.set_cons_succ, List.set_cons_zero]
  (refine wpAnyW_take (i := 1) (v := ?_) rfl (by kernel_rfl) (by kernel_rfl) (by kernel_rfl) (by kernel_rfl) (fun _ _ _ h => h) (Or.inl ⟨by kernel_rfl, ?_⟩) (by assumption) ?_; rotate_left; focus (intro V9 hS9; go_simp; (try (with_reducible rfl)); done))
  try simp only [Act.put, List.getElem_toArray, List.getElem_cons_succ, List.getElem_cons_zero, List.setIfInBounds_toArray, List.set_cons_succ, List.set_cons_zero]
  (refine wpAnyW_take (i := 2) (v := ?_) rfl (by kernel_rfl) (by kernel_rfl) (by kernel_rfl) (by kernel_rfl) (fun _ _ _ h => h) (Or.inl ⟨by kernel_rfl, ?_⟩) (by assumption) ?_; rotate_left; focus (intro V9 hS9; go_simp; (try (with_reducible rfl)); done))
  try simp only [Act.put, List.getElem_toArray, List.getElem_cons_succ, List.getElem_cons_zero, List.setIfInBounds_toArray, List.set_cons_succ, List.set_cons_zero]
  (refine wpAnyW_take (i := 3) (v := ?_) rfl (by kernel_rfl) (by kernel_rfl) (by kernel_rfl) (by kernel_rfl) (fun _ _ _ h => h) (Or.inl ⟨by kernel_rfl, ?_⟩) (by assumption) ?_; rotate_left; focus (intro V9 hS9; have c0 := (hS9.cell HCV.out.2.2.1).trans HCV.out.1; go_simp; (try (with_reducible rfl)); done))
  try simp only [Act.put, List.getElem_toArray, List.getElem_cons_succ, List.getElem_cons_zero, List.setIfInBounds_toArray, List.set_cons_succ, List.set_cons_zero]
  (refine wpAnyW_take (i := 4) (v := ?_) rfl (by kernel_rfl) (by kernel_rfl) (by kernel_rfl) (by kernel_rfl) (fun _ _ _ h => h) (Or.inl ⟨by kernel_rfl, ?_⟩) (by assumption) ?_; rotate_left; focus (intro V9 hS9; go_simp; (try (with_reducible rfl)); done))
  try simp only [Act.put, List.getElem_toArray, List.getElem_cons_succ, List.getElem_cons_zero, List.setIfInBounds_toArray, List.set_cons_succ, List.set_cons_zero]
  (refine wpAnyW_take (i := 5) (v := ?_) rfl (by kernel_rfl) (by kernel_rfl) (by kernel_rfl) (by kernel_rfl) (fun _ _ _ h => h) (Or.inl ⟨by kernel_rfl, ?_⟩) (by assumption) ?_; rotate_left; focus (intro V9 hS9; go_simp; (try (with_reducible rfl)); done))
  try simp only [Act.put, List.getElem_toArray, List.getElem_cons_succ, List.getElem_cons_zero, List.setIfInBounds_toArray, List.set_cons_succ, List.set_cons_zero]
  (refine wpAnyW_take (i := 6) (v := ?_) rfl (by kernel_rfl) (by kernel_rfl) (by kernel_rfl) (by kernel_rfl) (fun _ _ _ h => h) (Or.inl ⟨by kernel_rfl, ?_⟩) (by assumption) ?_; rotate_left; focus (intro V9 hS9; go_simp; (try (with_reducible rfl)); done))
  try simp only [Act.put, List.getElem_toArray, List.getElem_cons_succ, List.getElem_cons_zero, List.setIfInBounds_toArray, List.set_cons_succ, List.set_cons_zero]
  (refine wpAnyW_take (i := 7) (v := ?_) rfl (by kernel_rfl) (by kernel_rfl) (by kernel_rfl) (by kernel_rfl) (fun _ _ _ h => h) (Or.inl ⟨by kernel_rfl, ?_⟩) (by assumption) ?_; rotate_left; focus (intro V9 hS9; have c1 := (hS9.cell HCV.out.2.2.1).trans HCV.out.2.1; go_simp; (try (with_reducible rfl)); done))
  try simp only [Act.put, List.getElem_toArray, List.getElem_cons_succ, List.getElem_cons_zero, List.setIfInBounds_toArray, List.set_cons_succ, List.set_cons_zero]
  (refine wpAnyW_take (i := 8) (v := ?_) rfl (by kernel_rfl) (by kernel_rfl) (by kernel_rfl) (by kernel_rfl) (fun _ _ _ h => h) (Or.inl ⟨by kernel_rfl, ?_⟩) (by assumption) ?_; rotate_left; focus (intro V9 hS9; go_simp; (try (with_reducible rfl)); done))
  try simp only [Act.put, List.getElem_toArray, List.getElem_cons_succ, List.getElem_cons_zero, List.setIfInBounds_toArray, List.set_cons_succ, List.set_cons_zero]
  (refine wpAnyW_take (i := 9) (v := ?_) rfl (by kernel_rfl) (by kernel_rfl) (by kernel_rfl) (by kernel_rfl) (fun _ _ _ h => h) (Or.inl ⟨by kernel_rfl, ?_⟩) (by assumption) ?_; rotate_left; focus (intro V9 hS9; obtain ⟨_, _, _, t0, t1, t2, t3, t4, hlt⟩ := HCV.out; have t0 := (hS9.cell hlt).trans t0; have t1 := (hS9.cell hlt).trans t1; have t2 := (hS9.cell hlt).trans t2; have t3 := (hS9.cell hlt).trans t3; have t4 := (hS9.cell hlt).trans t4; go_simp; (try (with_reducible rfl)); done))
  try simp only [Act.put, List.getElem_toArray, List.getElem_cons_succ, List.getElem_cons_zero, List.setIfInBounds_toArray, List.set_cons_succ, List.set_cons_zero]
  refine wpAnyW_ready (rs := [10]) (by kernel_rfl) (by simp) ?_
  refine AllReadyW.cons rfl (fun K hK => ?_) AllReadyW.nil
  go_simp
  refine hK.out _ _ ((Below.refl _ _).drew.alloc (Nat.le_refl _) _) (fun _ => ?_)
  clear hK K
  try simp only [Act.put, List.getElem_toArray, List.getElem_cons_succ, List.getElem_cons_zero, List.setIfInBounds_toArray, List.set_cons_succ, List.set_cons_zero]
  refine wpAnyW_ready (rs := [11]) (by kernel_rfl) (by simp) ?_
  refine AllReadyW.consE rfl (by kernel_rfl) (fun K hK => ?_) AllReadyW.nil
  go_simp
  refine hK.out _ _ ?_
  clear hK K
  refine wpAnyW_done (by kernel_rfl) ?_ _
  go_upto_region 8 with (fail)
  refine wp_world (fun X => Blk X V3.heap.size 80 (tokC t) ∧ ZI pb A c T fin W s X) ?_ ?_
  · exact ⟨(Blk.new V3 _ (tokC t)), (HI3.out.tok t).keep (below_drewN (Below.refl _ _) 1)⟩
  have HGP := Lib.hid HCV.out.2.2.1
  clear HI3 HCV hS0 q1 q2 hd
  obtain ⟨g6, hg6⟩ : ∃ g6, V3.heap.size = g6 := ⟨_, rfl⟩
  rw [hg6] at HGP ⊢
  clear hg6
  rintro V4 ⟨hT4, hI4⟩
  have x0 : V4.cell? ⟨g6, 0, none⟩ = some (.int .i64 t.kind) := hT4.cell 0
  have x1 : V4.cell? ⟨g6, 1, none⟩ = some (.int .i64 t.int) := hT4.cell 1
  have x2 : V4.cell? ⟨g6, 2, none⟩ = some (.string ⟨t.text.toArray⟩) := hT4.cell 2
  have d1 : (t.kind == 1) = false := by have := HKD.out.1; simpa using this
  have d2 : (t.kind == 2) = false := by have := HKD.out.2.1; simpa using this
  have d3 : (t.kind == 3) = false := by have := HKD.out.2.2; simpa using this
  go_upto_region 18 with (fail)
  refine wp_world (fun X => ZI pb A c T fin W s X) hI4 ?_
  clear hT4 hI4 x0 x1 x2 d1 d2 d3 HTE HAE HGP hi HKD
  rw [← HPT.out]
  clear HPT
  intro V5 hI5
  go_upto_region 38 with (first
    | (go_at_call 21; with_reducible refine (HF0.out _ hI5.p).mono ?_; rintro e Vc0 ⟨rfl, hpc0, hfc0⟩)
    | (go_at_call 21; with_reducible refine (HF1.out _ hpc0).mono ?_; rintro e Vc1 ⟨rfl, hpc1, hfc1⟩)
    | (go_at_call 21; with_reducible refine (HF2.out _ hpc1).mono ?_; rintro e Vc2 ⟨rfl, hpc2, hfc2⟩)
    | (go_at_call 21; with_reducible refine (HF3.out _ hpc2).mono ?_; rintro e Vc3 ⟨rfl, hpc3, hfc3⟩)
    | (go_at_call 21; with_reducible refine (HF4.out _ hpc3).mono ?_; rintro e Vc4 ⟨rfl, hpc4, hfc4⟩))
  refine wp_world (fun X => ZI pb A c T fin W (nextP s) X) (((((hI5.act hpc0 hfc0).act hpc1 hfc1).act hpc2 hfc2).act hpc3 hfc3).act hpc4 hfc4) ?_
  clear hI5 hpc0 hfc0 HF0 hpc1 hfc1 HF1 hpc2 hfc2 HF2 hpc3 hfc3 HF3 hpc4 hfc4 HF4
  intro V6 hI
  go_upto_region 39 with (go_at_call 10; refine (HS2.out _ hI.p).mono ?_; rintro e V7 ⟨x, hx, rfl, hok, hp7, hf7⟩; replace hx := Lib.hid hx)
  have hs : (V7.alloc (.cells (enL [x]).toArray 26)).heap.size = V7.heap.size + 1 := by simp
  have hI8 := ((hI.act hp7 hf7).keep (below_alloc V7 (.cells (enL [x]).toArray 26))).make (one_le (ok_le hok hI.lt) (hI.act hp7 hf7).lt 14 [] pl (cs := (enL [x]).toArray) rfl)
  rw [hs] at hI8
  obtain ⟨gk, hg⟩ : ∃ gk, V7.heap.size = gk := ⟨_, rfl⟩
  rw [hg] at hI8 ⊢
  refine wp_world (fun V => BinI pb A c T fin W (gk + 1) (mkN 14 [] pl [x.t] gk 1) q.2 V) hI8 ?_
  clear hI8 hI hok hp7 hf7 hg HS2 hs
  intro V8 hI8
  go_upto_region 40 with (go_at_call 26; refine (HMO.out _ hI8.p).mono ?_; rintro e V7 ⟨rfl, hp7, hf7⟩)
  refine wp_world (fun V => BinI pb A c T fin W (gk + 1) (mkN 14 [] pl [x.t] gk 1) (mustP T fin sOf q.2) V) (hI8.act hp7 hf7) ?_
  clear hI8 hp7 hf7 HMO
  intro V8 hI8
  go_upto_region 41 with (go_at_call 79; refine (HS3.out _ hI8.p).mono ?_; rintro e V7 ⟨B, d, rfl, hrd, hp7, hf7⟩; have hI9 := hI8.act hp7 hf7; have hof := hI8.offC hrd; have fz := hI9.a.frozen 5; have c5 := hI9.a.cell 5)
  have hJ := hI9.put (y := ⟨.mk 14 0 [] pl [x.t] q2.1 [], some ⟨gk, 0, none⟩, 1, B, d, none, 0⟩) ⟨hI9.ok.kids, hof, hI9.ok.body⟩ (setC_fr V7 (gk + 1) 5 (.slice B q2.1.length d)) (hI9.a.set_ 5 (.slice B q2.1.length d))
  refine wp_world (fun V => BinI pb A c T fin W (gk + 1) ⟨.mk 14 0 [] pl [x.t] q2.1 [], some ⟨gk, 0, none⟩, 1, B, d, none, 0⟩ q2.2 V) hJ ?_
  clear hJ hI9 hof fz c5 hI8 hp7 hf7 hrd HS3
  intro V8 hI8
  go_upto_region 42 with (go_at_call 26; refine (HME.out _ hI8.p).mono ?_; rintro e V7 ⟨rfl, hp7, hf7⟩)
  refine wp_world (fun V => BinI pb A c T fin W (gk + 1) ⟨.mk 14 0 [] pl [x.t] q2.1 [], some ⟨gk, 0, none⟩, 1, B, d, none, 0⟩ (mustP T fin sEnd q2.2) V) (hI8.act hp7 hf7) ?_
  clear hI8 hp7 hf7 HME
  intro V9 hI
  obtain ⟨y, hy⟩ : ∃ y : EN, (⟨.mk 14 0 [] pl [x.t] q2.1 [], some ⟨gk, 0, none⟩, 1, B, d, none, 0⟩ : EN) = y := ⟨_, rfl⟩
  have HY9 : Hid (y.t = r.1 ∧ (mustP T fin sEnd q2.2) = r.2) := by rw [← hy]; exact by rw [← HRE.out, ← hx.out]; exact ⟨rfl, rfl⟩
  rw [hy] at hI
  clear hy
  obtain ⟨a0, a1, a2, a3, a4, a5, a6⟩ := hI.a.cells
  obtain ⟨z0, z1, z2, z3, z4, z5, z6, f0, f1, f2, f3, f4, f5, f6⟩ := zbx_facts hI.res
  go_wp2
  refine q_bp_world (fun V => NBx V W.heap.size y ∧ Fr (fun k => k = W.heap.size) V9 V) ⟨put7_blk hI.res _ _ _ _ _ _ _, put7_fr _ _ _ _ _ _ _ _ _⟩ ?_
  rintro V10 ⟨hB6, hF6⟩
  obtain ⟨x0, x1, x2, x3, x4, x5, x6⟩ := hB6.cells
  obtain ⟨e1, e2, e3⟩ := hI.fin_ hF6
  exact bodyPost_ret (v := .agg #[.int .i64 y.t.kind, .int .i64 y.t.int, .string ⟨y.t.name.toArray⟩, .int .i64 y.t.at_, .slice y.A y.t.kids.length y.c, .slice y.B y.t.clauses.length y.d, .slice y.C y.t.body.length y.e]) (by simp [results, Try.results77, go_sem, x0, x1, x2, x3, x4, x5, x6]) rfl ⟨y, HY9.out.1, rfl, e1, by rw [← HY9.out.2]; exact e2, e3⟩

set_option maxRecDepth 100000 in
set_option maxHeartbeats 8000000 in
theorem prim_try {n : Nat} {deep : Nat} {s : PS} {r : ND × PS} {t : Tok} (HLI : ListOk pb A c T fin n) (HA : ArmsOk pb A c T fin n) (hdp : deep + (n + 1) ≤ deepB) (he : s.e = 0) (ht : T[s.i]? = some t) (hk : t.kind ≠ 1 ∧ t.kind ≠ 2 ∧ t.kind ≠ 3) (hb0 : isP T sOpen s = false) (hb1 : isP T sLc s = false) (hb2 : isP T sLb s = false) (hb3 : isP T sFun s = false) (hb4 : isP T sCase s = false) (hb5 : isP T sReceive s = false) (hb6 : isP T sTry s = true) (hr : primW T fin (lang T fin n) deep s = some r) (hp : PAt pb A c T fin s W) :
    Calls Try.prog 77 #[.pointer (some ⟨pb, 0, none⟩), .int .i64 (deep : Int)] W (NEnd pb A c T fin W r) := by
  unfold primW at hr
  rw [hb0, if_neg (by simp), hb1, if_neg (by simp), hb2, if_neg (by simp), hb3, if_neg (by simp), hb4, if_neg (by simp), hb5, if_neg (by simp), hb6, if_pos rfl] at hr
  have hdq : deep + (n + 1) ≤ 4611686018427387904 := hdp
  have q9 : IntKind.i64.wrap ((deep : Int) + 1) = ((deep + 1 : Nat) : Int) := by rw [IntKind.wrap_i64]; omega
  obtain ⟨pl, hpl⟩ : ∃ pl, placeP T fin s = pl := ⟨_, rfl⟩
  have hpt : pl = ((t.at_ : Nat) : Int) := by rw [← hpl]; unfold placeP; rw [ht]
  try rw [hpl] at hr
  obtain ⟨q, hq, hl⟩ := bind_inv hr
  obtain ⟨q2, hq2, hl⟩ := bind_inv hl
  have HRE := Lib.hid (Option.some.inj hl)
  have HS2 : Hid (∀ V, PAt pb A c T fin (nextP s) V → Calls Try.prog 71 #[.pointer (some ⟨pb, 0, none⟩), .int .i64 (((deep + 1 : Nat) : Nat) : Int)] V (LEnd pb A c T fin V q)) := fun V hV => HLI (deep + 1) _ V q (by omega) hq hV
  have HS3 : Hid (∀ V, PAt pb A c T fin (mustP T fin sCatch q.2) V → Calls Try.prog 79 #[.pointer (some ⟨pb, 0, none⟩), .int .i64 (((deep + 1 : Nat) : Nat) : Int)] V (KEnd pb A c T fin V q2)) := fun V hV => HA (deep + 1) _ V q2 (by omega) hq2 hV
  have HMO : Hid (∀ V, PAt pb A c T fin q.2 V → Calls Try.prog 26 #[.pointer (some ⟨pb, 0, none⟩), .string ⟨#[99, 97, 116, 99, 104]⟩] V fun r w' => r = .returned (.tuple #[]) ∧ PAt pb A c T fin (mustP T fin sCatch q.2) w' ∧ PFr pb V w') := fun V hV => must_any hV sCatch
  have HME : Hid (∀ V, PAt pb A c T fin q2.2 V → Calls Try.prog 26 #[.pointer (some ⟨pb, 0, none⟩), .string ⟨#[101, 110, 100]⟩] V fun r w' => r = .returned (.tuple #[]) ∧ PAt pb A c T fin (mustP T fin sEnd q2.2) w' ∧ PFr pb V w') := fun V hV => must_any hV sEnd
  clear hq hq2 hl HLI HA
  have HF0 : Hid (∀ V, PAt pb A c T fin s V → Calls Try.prog 21 #[.pointer (some ⟨pb, 0, none⟩), .string ⟨#[40]⟩] V fun r w' => r = .returned (.bool false) ∧ PAt pb A c T fin s w' ∧ PFr pb V w') := fun V hV => by
    have := take_any hV sOpen
    rw [hb0, if_neg (by simp)] at this
    exact this
  have HF1 : Hid (∀ V, PAt pb A c T fin s V → Calls Try.prog 21 #[.pointer (some ⟨pb, 0, none⟩), .string ⟨#[123]⟩] V fun r w' => r = .returned (.bool false) ∧ PAt pb A c T fin s w' ∧ PFr pb V w') := fun V hV => by
    have := take_any hV sLc
    rw [hb1, if_neg (by simp)] at this
    exact this
  have HF2 : Hid (∀ V, PAt pb A c T fin s V → Calls Try.prog 21 #[.pointer (some ⟨pb, 0, none⟩), .string ⟨#[91]⟩] V fun r w' => r = .returned (.bool false) ∧ PAt pb A c T fin s w' ∧ PFr pb V w') := fun V hV => by
    have := take_any hV sLb
    rw [hb2, if_neg (by simp)] at this
    exact this
  have HF3 : Hid (∀ V, PAt pb A c T fin s V → Calls Try.prog 21 #[.pointer (some ⟨pb, 0, none⟩), .string ⟨#[102, 117, 110]⟩] V fun r w' => r = .returned (.bool false) ∧ PAt pb A c T fin s w' ∧ PFr pb V w') := fun V hV => by
    have := take_any hV sFun
    rw [hb3, if_neg (by simp)] at this
    exact this
  have HF4 : Hid (∀ V, PAt pb A c T fin s V → Calls Try.prog 21 #[.pointer (some ⟨pb, 0, none⟩), .string ⟨#[99, 97, 115, 101]⟩] V fun r w' => r = .returned (.bool false) ∧ PAt pb A c T fin s w' ∧ PFr pb V w') := fun V hV => by
    have := take_any hV sCase
    rw [hb4, if_neg (by simp)] at this
    exact this
  have HF5 : Hid (∀ V, PAt pb A c T fin s V → Calls Try.prog 21 #[.pointer (some ⟨pb, 0, none⟩), .string ⟨#[114, 101, 99, 101, 105, 118, 101]⟩] V fun r w' => r = .returned (.bool false) ∧ PAt pb A c T fin s w' ∧ PFr pb V w') := fun V hV => by
    have := take_any hV sReceive
    rw [hb5, if_neg (by simp)] at this
    exact this
  have HF6 : Hid (∀ V, PAt pb A c T fin s V → Calls Try.prog 21 #[.pointer (some ⟨pb, 0, none⟩), .string ⟨#[116, 114, 121]⟩] V fun r w' => r = .returned (.bool true) ∧ PAt pb A c T fin (nextP s) w' ∧ PFr pb V w') := fun V hV => by
    have := take_any hV sTry
    rw [hb6, if_pos rfl] at this
    exact this
  clear hb0 hb1 hb2 hb3 hb4 hb5 hb6
  have HKD := Lib.hid hk
  clear hk
  have HPT := Lib.hid hpt
  clear hpt hpl
  have HST := Lib.hid (ZI.start hp)
  have hlen := hp.len
  have HPL : Hid (∀ V, PAt pb A c T fin s V → Calls Try.prog 20 #[.pointer (some ⟨pb, 0, none⟩)] V fun e w' => e = .returned (.int .i64 ((t.at_ : Nat) : Int)) ∧ Below V.heap.size V w') := fun V hV => by
    have h9 : placeP T fin s = ((t.at_ : Nat) : Int) := by unfold placeP; rw [ht]
    rw [← h9]
    exact place_any hV
  obtain ⟨hi, hte⟩ := List.getElem?_eq_some_iff.1 ht
  have HTE := Lib.hid hte
  have hd : decide (T.length ≤ s.i) = false := by simpa using hi
  have HE := Lib.hid he
  clear hr he hp ht hte
  go_enter Try.func77, Try.ntmps77
  go_upto_region 1 with (fail)
  refine wp_world (fun V => ZI pb A c T fin W s V) HST.out ?_
  clear HST
  intro V0 hI0
  obtain ⟨c0, c1, c2, c3, c4⟩ := hI0.p.cells
  rw [HE.out] at c3
  go_upto_region 4 with (go_at_call 20; refine (HPL.out _ hI0.p).mono ?_; rintro e V1 ⟨rfl, hb1⟩)
  refine wp_world (fun V => ZI pb A c T fin W s V) (hI0.keep hb1) ?_
  clear hI0 hb1 c0 c1 c2 c3 c4 HPL
  intro V2 hI2
  obtain ⟨c0, c1, c2, c3, c4⟩ := hI2.p.cells
  have HI2 := Lib.hid hI2
  clear hI2
  go_quiet (fail)
  go_wp2
  refine wp_world (fun V => ZI pb A c T fin W s V) (HI2.out.keep (below_drewN (Below.refl _ _) _)) ?_
  clear HI2 c0 c1 c2 c3 c4
  intro V3 hI3
  obtain ⟨c0, c1, c2, c3, c4⟩ := hI3.p.cells
  have q1 : (0 : Int) ≤ (s.i : Int) := by omega
  have q2 : (s.i : Int) < (T.length : Int) := by omega
  have htk := hI3.p.toks.at_ hi
  rw [HTE.out] at htk
  obtain ⟨b, o, hAe, hlt, t0, t1, t2, t3, t4⟩ := htk
  rw [hAe] at c0
  have HCV : Hid (V3.cell? ⟨pb, 0, none⟩ = some (.slice (some ⟨b, o, none⟩) T.length c) ∧ V3.cell? ⟨pb, 1, none⟩ = some (.int .i64 (s.i : Int)) ∧ pb < V3.heap.size ∧ V3.cell? ⟨b, o + s.i * 5, none⟩ = some (.int .i64 t.kind) ∧ V3.cell? ⟨b, o + s.i * 5 + 1, none⟩ = some (.int .i64 t.int) ∧ V3.cell? ⟨b, o + s.i * 5 + 2, none⟩ = some (.string ⟨t.text.toArray⟩) ∧ V3.cell? ⟨b, o + s.i * 5 + 3, none⟩ = some (.int .i64 ((t.at_ : Nat) : Int)) ∧ V3.cell? ⟨b, o + s.i * 5 + 4, none⟩ = some (.int .i64 ((t.fin : Nat) : Int)) ∧ b < V3.heap.size) := ⟨c0, c1, hI3.p.obj.lt, t0, t1, t2, t3, t4, hlt⟩
  have HI3 := Lib.hid hI3
  have HAE := Lib.hid hAe
  clear hI3 c0 c1 c2 c3 c4 t0 t1 t2 t3 t4 hlt hAe
  refine wp_region_W 11 (fun X => Below V3.heap.size V3 X) (by kernel_rfl) ?_ (fun hS0 => ?_)
  · exact (Below.refl _ _).drew
  (refine wpAnyW_take (i := 0) (v := ?_) rfl (by kernel_rfl) (by kernel_rfl) (by kernel_rfl) (by kernel_rfl) (fun _ _ _ h => h) (Or.inl ⟨by kernel_rfl, ?_⟩) (by assumption) ?_; rotate_left; focus (intro V9 hS9; go_simp; (try (with_reducible rfl)); done))
  try simp only [Act.put, List.getElem_toArray, List.getElem_cons_zero, List.setIfInBounds_toArray, List.set_cons_succ, List.set_cons_zero]
  (refine wpAnyW_take (i := 1) (v := ?_) rfl (by kernel_rfl) (by kernel_rfl) (by kernel_rfl) (by kernel_rfl) (fun _ _ _ h => h) (Or.inl ⟨by kernel_rfl, ?_⟩) (by assumption) ?_; rotate_left; focus (intro V9 hS9; go_simp; (try (with_reducible rfl)); done))
  try simp only [Act.put, List.getElem_toArray, List.getElem_cons_succ, List.getElem_cons_zero, List.setIfInBounds_toArray, List.set_cons_succ, List.set_cons_zero]
  (refine wpAnyW_take (i := 2) (v := ?_) rfl (by kernel_rfl) (by kernel_rfl) (by kernel_rfl) (by kernel_rfl) (fun _ _ _ h => h) (Or.inl ⟨by kernel_rfl, ?_⟩) (by assumption) ?_; rotate_left; focus (intro V9 hS9; go_simp; (try (with_reducible rfl)); done))
  try simp only [Act.put, List.getElem_toArray, List.getElem_cons_succ, List.getElem_cons_zero, List.setIfInBounds_toArray, List.set_cons_succ, List.set_cons_zero]
  (refine wpAnyW_take (i := 3) (v := ?_) rfl (by kernel_rfl) (by kernel_rfl) (by kernel_rfl) (by kernel_rfl) (fun _ _ _ h => h) (Or.inl ⟨by kernel_rfl, ?_⟩) (by assumption) ?_; rotate_left; focus (intro V9 hS9; have c0 := (hS9.cell HCV.out.2.2.1).trans HCV.out.1; go_simp; (try (with_reducible rfl)); done))
  try simp only [Act.put, List.getElem_toArray, List.getElem_cons_succ, List.getElem_cons_zero, List.setIfInBounds_toArray, List.set_cons_succ, List.set_cons_zero]
  (refine wpAnyW_take (i := 4) (v := ?_) rfl (by kernel_rfl) (by kernel_rfl) (by kernel_rfl) (by kernel_rfl) (fun _ _ _ h => h) (Or.inl ⟨by kernel_rfl, ?_⟩) (by assumption) ?_; rotate_left; focus (intro V9 hS9; go_simp; (try (with_reducible rfl)); done))
  try simp only [Act.put, List.getElem_toArray, List.getElem_cons_succ, List.getElem_cons_zero, List.setIfInBounds_toArray, List.set_cons_succ, List.set_cons_zero]
  (refine wpAnyW_take (i := 5) (v := ?_) rfl (by kernel_rfl) (by kernel_rfl) (by kernel_rfl) (by kernel_rfl) (fun _ _ _ h => h) (Or.inl ⟨by kernel_rfl, ?_⟩) (by assumption) ?_; rotate_left; focus (intro V9 hS9; go_simp; (try (with_reducible rfl)); done))
  try simp only [Act.put, List.getElem_toArray, List.getElem_cons_succ, List.getElem_cons_zero, List.setIfInBounds_toArray, List.set_cons_succ, List.set_cons_zero]
  (refine wpAnyW_take (i := 6) (v := ?_) rfl (by kernel_rfl) (by kernel_rfl) (by kernel_rfl) (by kernel_rfl) (fun _ _ _ h => h) (Or.inl ⟨by kernel_rfl, ?_⟩) (by assumption) ?_; rotate_left; focus (intro V9 hS9; go_simp; (try (with_reducible rfl)); done))
  try simp only [Act.put, List.getElem_toArray, List.getElem_cons_succ, List.getElem_cons_zero, List.setIfInBounds_toArray, List.set_cons_succ, List.set_cons_zero]
  (refine wpAnyW_take (i := 7) (v := ?_) rfl (by kernel_rfl) (by kernel_rfl) (by kernel_rfl) (by kernel_rfl) (fun _ _ _ h => h) (Or.inl ⟨by kernel_rfl, ?_⟩) (by assumption) ?_; rotate_left; focus (intro V9 hS9; have c1 := (hS9.cell HCV.out.2.2.1).trans HCV.out.2.1; go_simp; (try (with_reducible rfl)); done))
  try simp only [Act.put, List.getElem_toArray, List.getElem_cons_succ, List.getElem_cons_zero, List.setIfInBounds_toArray, List.set_cons_succ, List.set_cons_zero]
  (refine wpAnyW_take (i := 8) (v := ?_) rfl (by kernel_rfl) (by kernel_rfl) (by kernel_rfl) (by kernel_rfl) (fun _ _ _ h => h) (Or.inl ⟨by kernel_rfl, ?_⟩) (by assumption) ?_; rotate_left; focus (intro V9 hS9; go_simp; (try (with_reducible rfl)); done))
  try simp only [Act.put, List.getElem_toArray, List.getElem_cons_succ, List.getElem_cons_zero, List.setIfInBounds_toArray, List.set_cons_succ, List.set_cons_zero]
  (refine wpAnyW_take (i := 9) (v := ?_) rfl (by kernel_rfl) (by kernel_rfl) (by kernel_rfl) (by kernel_rfl) (fun _ _ _ h => h) (Or.inl ⟨by kernel_rfl, ?_⟩) (by assumption) ?_; rotate_left; focus (intro V9 hS9; obtain ⟨_, _, _, t0, t1, t2, t3, t4, hlt⟩ := HCV.out; have t0 := (hS9.cell hlt).trans t0; have t1 := (hS9.cell hlt).trans t1; have t2 := (hS9.cell hlt).trans t2; have t3 := (hS9.cell hlt).trans t3; have t4 := (hS9.cell hlt).trans t4; go_simp; (try (with_reducible rfl)); done))
  try simp only [Act.put, List.getElem_toArray, List.getElem_cons_succ, List.getElem_cons_zero, List.setIfInBounds_toArray, List.set_cons_succ, List.set_cons_zero]
  refine wpAnyW_ready (rs := [10]) (by kernel_rfl) (by simp) ?_
  refine AllReadyW.cons rfl (fun K hK => ?_) AllReadyW.nil
  go_simp
  refine hK.out _ _ ((Below.refl _ _).drew.alloc (Nat.le_refl _) _) (fun _ => ?_)
  clear hK K
  try simp only [Act.put, List.getElem_toArray, List.getElem_cons_succ, List.getElem_cons_zero, List.setIfInBounds_toArray, List.set_cons_succ, List.set_cons_zero]
  refine wpAnyW_ready (rs := [11]) (by kernel_rfl) (by simp) ?_
  refine AllReadyW.consE rfl (by kernel_rfl) (fun K hK => ?_) AllReadyW.nil
  go_simp
  refine hK.out _ _ ?_
  clear hK K
  refine wpAnyW_done (by kernel_rfl) ?_ _
  go_upto_region 8 with (fail)
  refine wp_world (fun X => Blk X V3.heap.size 80 (tokC t) ∧ ZI pb A c T fin W s X) ?_ ?_
  · exact ⟨(Blk.new V3 _ (tokC t)), (HI3.out.tok t).keep (below_drewN (Below.refl _ _) 1)⟩
  have HGP := Lib.hid HCV.out.2.2.1
  clear HI3 HCV hS0 q1 q2 hd
  obtain ⟨g6, hg6⟩ : ∃ g6, V3.heap.size = g6 := ⟨_, rfl⟩
  rw [hg6] at HGP ⊢
  clear hg6
  rintro V4 ⟨hT4, hI4⟩
  have x0 : V4.cell? ⟨g6, 0, none⟩ = some (.int .i64 t.kind) := hT4.cell 0
  have x1 : V4.cell? ⟨g6, 1, none⟩ = some (.int .i64 t.int) := hT4.cell 1
  have x2 : V4.cell? ⟨g6, 2, none⟩ = some (.string ⟨t.text.toArray⟩) := hT4.cell 2
  have d1 : (t.kind == 1) = false := by have := HKD.out.1; simpa using this
  have d2 : (t.kind == 2) = false := by have := HKD.out.2.1; simpa using this
  have d3 : (t.kind == 3) = false := by have := HKD.out.2.2; simpa using this
  go_upto_region 18 with (fail)
  refine wp_world (fun X => ZI pb A c T fin W s X) hI4 ?_
  clear hT4 hI4 x0 x1 x2 d1 d2 d3 HTE HAE HGP hi HKD
  rw [← HPT.out]
  clear HPT
  intro V5 hI5
  go_upto_region 54 with (first
    | (go_at_call 21; with_reducible refine (HF0.out _ hI5.p).mono ?_; rintro e Vc0 ⟨rfl, hpc0, hfc0⟩)
    | (go_at_call 21; with_reducible refine (HF1.out _ hpc0).mono ?_; rintro e Vc1 ⟨rfl, hpc1, hfc1⟩)
    | (go_at_call 21; with_reducible refine (HF2.out _ hpc1).mono ?_; rintro e Vc2 ⟨rfl, hpc2, hfc2⟩)
    | (go_at_call 21; with_reducible refine (HF3.out _ hpc2).mono ?_; rintro e Vc3 ⟨rfl, hpc3, hfc3⟩)
    | (go_at_call 21; with_reducible refine (HF4.out _ hpc3).mono ?_; rintro e Vc4 ⟨rfl, hpc4, hfc4⟩)
    | (go_at_call 21; with_reducible refine (HF5.out _ hpc4).mono ?_; rintro e Vc5 ⟨rfl, hpc5, hfc5⟩)
    | (go_at_call 21; with_reducible refine (HF6.out _ hpc5).mono ?_; rintro e Vc6 ⟨rfl, hpc6, hfc6⟩))
  refine wp_world (fun X => ZI pb A c T fin W (nextP s) X) (((((((hI5.act hpc0 hfc0).act hpc1 hfc1).act hpc2 hfc2).act hpc3 hfc3).act hpc4 hfc4).act hpc5 hfc5).act hpc6 hfc6) ?_
  clear hI5 hpc0 hfc0 HF0 hpc1 hfc1 HF1 hpc2 hfc2 HF2 hpc3 hfc3 HF3 hpc4 hfc4 HF4 hpc5 hfc5 HF5 hpc6 hfc6 HF6
  intro V6 hI
  go_upto_region 55 with (go_at_call 71; refine (HS2.out _ hI.p).mono ?_; rintro e V7 ⟨C, ec, rfl, hrc, hp7, hf7⟩)
  have hI8 := (hI.act hp7 hf7).make (y := ⟨.mk 16 0 [] pl [] [] q.1, none, 0, none, 0, C, ec⟩) ⟨RdN.nil_ _ _ _ (Nat.zero_le _), RdC.nil_ _ _ _ (Nat.zero_le _), hI.off hrc⟩
  obtain ⟨g, hg⟩ : ∃ g, V7.heap.size = g := ⟨_, rfl⟩
  rw [hg] at hI8 ⊢
  refine wp_world (fun V => BinI pb A c T fin W g ⟨.mk 16 0 [] pl [] [] q.1, none, 0, none, 0, C, ec⟩ q.2 V) hI8 ?_
  clear hI8 hI hrc hp7 hf7 hg HS2
  intro V8 hI8
  go_upto_region 56 with (go_at_call 26; refine (HMO.out _ hI8.p).mono ?_; rintro e V7 ⟨rfl, hp7, hf7⟩)
  refine wp_world (fun V => BinI pb A c T fin W g ⟨.mk 16 0 [] pl [] [] q.1, none, 0, none, 0, C, ec⟩ (mustP T fin sCatch q.2) V) (hI8.act hp7 hf7) ?_
  clear hI8 hp7 hf7 HMO
  intro V8 hI8
  go_upto_region 57 with (go_at_call 79; refine (HS3.out _ hI8.p).mono ?_; rintro e V7 ⟨B, d, rfl, hrd, hp7, hf7⟩; have hI9 := hI8.act hp7 hf7; have hof := hI8.offC hrd; have fz := hI9.a.frozen 5; have c5 := hI9.a.cell 5)
  have hJ := hI9.put (y := ⟨.mk 16 0 [] pl [] q2.1 q.1, none, 0, B, d, C, ec⟩) ⟨hI9.ok.kids, hof, hI9.ok.body⟩ (setC_fr V7 g 5 (.slice B q2.1.length d)) (hI9.a.set_ 5 (.slice B q2.1.length d))
  refine wp_world (fun V => BinI pb A c T fin W g ⟨.mk 16 0 [] pl [] q2.1 q.1, none, 0, B, d, C, ec⟩ q2.2 V) hJ ?_
  clear hJ hI9 hof fz c5 hI8 hp7 hf7 hrd HS3
  intro V8 hI8
  go_upto_region 58 with (go_at_call 26; refine (HME.out _ hI8.p).mono ?_; rintro e V7 ⟨rfl, hp7, hf7⟩)
  refine wp_world (fun V => BinI pb A c T fin W g ⟨.mk 16 0 [] pl [] q2.1 q.1, none, 0, B, d, C, ec⟩ (mustP T fin sEnd q2.2) V) (hI8.act hp7 hf7) ?_
  clear hI8 hp7 hf7 HME
  intro V9 hI
  obtain ⟨y, hy⟩ : ∃ y : EN, (⟨.mk 16 0 [] pl [] q2.1 q.1, none, 0, B, d, C, ec⟩ : EN) = y := ⟨_, rfl⟩
  have HY9 : Hid (y.t = r.1 ∧ (mustP T fin sEnd q2.2) = r.2) := by rw [← hy]; exact by rw [← HRE.out]; exact ⟨rfl, rfl⟩
  rw [hy] at hI
  clear hy
  obtain ⟨a0, a1, a2, a3, a4, a5, a6⟩ := hI.a.cells
  obtain ⟨z0, z1, z2, z3, z4, z5, z6, f0, f1, f2, f3, f4, f5, f6⟩ := zbx_facts hI.res
  go_wp2
  refine q_bp_world (fun V => NBx V W.heap.size y ∧ Fr (fun k => k = W.heap.size) V9 V) ⟨put7_blk hI.res _ _ _ _ _ _ _, put7_fr _ _ _ _ _ _ _ _ _⟩ ?_
  rintro V10 ⟨hB6, hF6⟩
  obtain ⟨x0, x1, x2, x3, x4, x5, x6⟩ := hB6.cells
  obtain ⟨e1, e2, e3⟩ := hI.fin_ hF6
  exact bodyPost_ret (v := .agg #[.int .i64 y.t.kind, .int .i64 y.t.int, .string ⟨y.t.name.toArray⟩, .int .i64 y.t.at_, .slice y.A y.t.kids.length y.c, .slice y.B y.t.clauses.length y.d, .slice y.C y.t.body.length y.e]) (by simp [results, Try.results77, go_sem, x0, x1, x2, x3, x4, x5, x6]) rfl ⟨y, HY9.out.1, rfl, e1, by rw [← HY9.out.2]; exact e2, e3⟩

set_option maxRecDepth 100000 in
set_option maxHeartbeats 8000000 in
theorem prim_none {n : Nat} {deep : Nat} {s : PS} {r : ND × PS} {t : Tok} (hdp : deep + (n + 1) ≤ deepB) (he : s.e = 0) (ht : T[s.i]? = some t) (hk : t.kind ≠ 1 ∧ t.kind ≠ 2 ∧ t.kind ≠ 3) (hb0 : isP T sOpen s = false) (hb1 : isP T sLc s = false) (hb2 : isP T sLb s = false) (hb3 : isP T sFun s = false) (hb4 : isP T sCase s = false) (hb5 : isP T sReceive s = false) (hb6 : isP T sTry s = false) (hr : primW T fin (lang T fin n) deep s = some r) (hp : PAt pb A c T fin s W) :
    Calls Try.prog 77 #[.pointer (some ⟨pb, 0, none⟩), .int .i64 (deep : Int)] W (NEnd pb A c T fin W r) := by
  unfold primW at hr
  rw [hb0, if_neg (by simp), hb1, if_neg (by simp), hb2, if_neg (by simp), hb3, if_neg (by simp), hb4, if_neg (by simp), hb5, if_neg (by simp), hb6, if_neg (by simp)] at hr
  have hdq : deep + (n + 1) ≤ 4611686018427387904 := hdp
  have q9 : IntKind.i64.wrap ((deep : Int) + 1) = ((deep + 1 : Nat) : Int) := by rw [IntKind.wrap_i64]; omega
  obtain ⟨pl, hpl⟩ : ∃ pl, placeP T fin s = pl := ⟨_, rfl⟩
  have hpt : pl = ((t.at_ : Nat) : Int) := by rw [← hpl]; unfold placeP; rw [ht]
  try rw [hpl] at hr
  have HRE := Lib.hid (Option.some.inj hr)
  have HFL : Hid (∀ V s, PAt pb A c T fin s V → Calls Try.prog 11 #[.pointer (some ⟨pb, 0, none⟩), .int .i64 110] V fun r w' => r = .returned (.tuple #[]) ∧ PAt pb A c T fin (failP T fin 110 s) w' ∧ PFr pb V w') := fun V s hV => pfail_any hV 110
  have HF0 : Hid (∀ V, PAt pb A c T fin s V → Calls Try.prog 21 #[.pointer (some ⟨pb, 0, none⟩), .string ⟨#[40]⟩] V fun r w' => r = .returned (.bool false) ∧ PAt pb A c T fin s w' ∧ PFr pb V w') := fun V hV => by
    have := take_any hV sOpen
    rw [hb0, if_neg (by simp)] at this
    exact this
  have HF1 : Hid (∀ V, PAt pb A c T fin s V → Calls Try.prog 21 #[.pointer (some ⟨pb, 0, none⟩), .string ⟨#[123]⟩] V fun r w' => r = .returned (.bool false) ∧ PAt pb A c T fin s w' ∧ PFr pb V w') := fun V hV => by
    have := take_any hV sLc
    rw [hb1, if_neg (by simp)] at this
    exact this
  have HF2 : Hid (∀ V, PAt pb A c T fin s V → Calls Try.prog 21 #[.pointer (some ⟨pb, 0, none⟩), .string ⟨#[91]⟩] V fun r w' => r = .returned (.bool false) ∧ PAt pb A c T fin s w' ∧ PFr pb V w') := fun V hV => by
    have := take_any hV sLb
    rw [hb2, if_neg (by simp)] at this
    exact this
  have HF3 : Hid (∀ V, PAt pb A c T fin s V → Calls Try.prog 21 #[.pointer (some ⟨pb, 0, none⟩), .string ⟨#[102, 117, 110]⟩] V fun r w' => r = .returned (.bool false) ∧ PAt pb A c T fin s w' ∧ PFr pb V w') := fun V hV => by
    have := take_any hV sFun
    rw [hb3, if_neg (by simp)] at this
    exact this
  have HF4 : Hid (∀ V, PAt pb A c T fin s V → Calls Try.prog 21 #[.pointer (some ⟨pb, 0, none⟩), .string ⟨#[99, 97, 115, 101]⟩] V fun r w' => r = .returned (.bool false) ∧ PAt pb A c T fin s w' ∧ PFr pb V w') := fun V hV => by
    have := take_any hV sCase
    rw [hb4, if_neg (by simp)] at this
    exact this
  have HF5 : Hid (∀ V, PAt pb A c T fin s V → Calls Try.prog 21 #[.pointer (some ⟨pb, 0, none⟩), .string ⟨#[114, 101, 99, 101, 105, 118, 101]⟩] V fun r w' => r = .returned (.bool false) ∧ PAt pb A c T fin s w' ∧ PFr pb V w') := fun V hV => by
    have := take_any hV sReceive
    rw [hb5, if_neg (by simp)] at this
    exact this
  have HF6 : Hid (∀ V, PAt pb A c T fin s V → Calls Try.prog 21 #[.pointer (some ⟨pb, 0, none⟩), .string ⟨#[116, 114, 121]⟩] V fun r w' => r = .returned (.bool false) ∧ PAt pb A c T fin s w' ∧ PFr pb V w') := fun V hV => by
    have := take_any hV sTry
    rw [hb6, if_neg (by simp)] at this
    exact this
  clear hb0 hb1 hb2 hb3 hb4 hb5 hb6
  have HKD := Lib.hid hk
  clear hk
  have HPT := Lib.hid hpt
  clear hpt hpl
  have HST := Lib.hid (ZI.start hp)
  have hlen := hp.len
  have HPL : Hid (∀ V, PAt pb A c T fin s V → Calls Try.prog 20 #[.pointer (some ⟨pb, 0, none⟩)] V fun e w' => e = .returned (.int .i64 ((t.at_ : Nat) : Int)) ∧ Below V.heap.size V w') := fun V hV => by
    have h9 : placeP T fin s = ((t.at_ : Nat) : Int) := by unfold placeP; rw [ht]
    rw [← h9]
    exact place_any hV
  obtain ⟨hi, hte⟩ := List.getElem?_eq_some_iff.1 ht
  have HTE := Lib.hid hte
  have hd : decide (T.length ≤ s.i) = false := by simpa using hi
  have HE := Lib.hid he
  clear hr he hp ht hte
  go_enter Try.func77, Try.ntmps77
  go_upto_region 1 with (fail)
  refine wp_world (fun V => ZI pb A c T fin W s V) HST.out ?_
  clear HST
  intro V0 hI0
  obtain ⟨c0, c1, c2, c3, c4⟩ := hI0.p.cells
  rw [HE.out] at c3
  go_upto_region 4 with (go_at_call 20; refine (HPL.out _ hI0.p).mono ?_; rintro e V1 ⟨rfl, hb1⟩)
  refine wp_world (fun V => ZI pb A c T fin W s V) (hI0.keep hb1) ?_
  clear hI0 hb1 c0 c1 c2 c3 c4 HPL
  intro V2 hI2
  obtain ⟨c0, c1, c2, c3, c4⟩ := hI2.p.cells
  have HI2 := Lib.hid hI2
  clear hI2
  go_quiet (fail)
  go_wp2
  refine wp_world (fun V => ZI pb A c T fin W s V) (HI2.out.keep (below_drewN (Below.refl _ _) _)) ?_
  clear HI2 c0 c1 c2 c3 c4
  intro V3 hI3
  obtain ⟨c0, c1, c2, c3, c4⟩ := hI3.p.cells
  have q1 : (0 : Int) ≤ (s.i : Int) := by omega
  have q2 : (s.i : Int) < (T.length : Int) := by omega
  have htk := hI3.p.toks.at_ hi
  rw [HTE.out] at htk
  obtain ⟨b, o, hAe, hlt, t0, t1, t2, t3, t4⟩ := htk
  rw [hAe] at c0
  have HCV : Hid (V3.cell? ⟨pb, 0, none⟩ = some (.slice (some ⟨b, o, none⟩) T.length c) ∧ V3.cell? ⟨pb, 1, none⟩ = some (.int .i64 (s.i : Int)) ∧ pb < V3.heap.size ∧ V3.cell? ⟨b, o + s.i * 5, none⟩ = some (.int .i64 t.kind) ∧ V3.cell? ⟨b, o + s.i * 5 + 1, none⟩ = some (.int .i64 t.int) ∧ V3.cell? ⟨b, o + s.i * 5 + 2, none⟩ = some (.string ⟨t.text.toArray⟩) ∧ V3.cell? ⟨b, o + s.i * 5 + 3, none⟩ = some (.int .i64 ((t.at_ : Nat) : Int)) ∧ V3.cell? ⟨b, o + s.i * 5 + 4, none⟩ = some (.int .i64 ((t.fin : Nat) : Int)) ∧ b < V3.heap.size) := ⟨c0, c1, hI3.p.obj.lt, t0, t1, t2, t3, t4, hlt⟩
  have HI3 := Lib.hid hI3
  have HAE := Lib.hid hAe
  clear hI3 c0 c1 c2 c3 c4 t0 t1 t2 t3 t4 hlt hAe
  refine wp_region_W 11 (fun X => Below V3.heap.size V3 X) (by kernel_rfl) ?_ (fun hS0 => ?_)
  · exact (Below.refl _ _).drew
  (refine wpAnyW_take (i := 0) (v := ?_) rfl (by kernel_rfl) (by kernel_rfl) (by kernel_rfl) (by kernel_rfl) (fun _ _ _ h => h) (Or.inl ⟨by kernel_rfl, ?_⟩) (by assumption) ?_; rotate_left; focus (intro V9 hS9; go_simp; (try (with_reducible rfl)); done))
  try simp only [Act.put, List.getElem_toArray, List.getElem_cons_zero, List.setIfInBounds_toArray, List.set_cons_succ, List.set_cons_zero]
  (refine wpAnyW_take (i := 1) (v := ?_) rfl (by kernel_rfl) (by kernel_rfl) (by kernel_rfl) (by kernel_rfl) (fun _ _ _ h => h) (Or.inl ⟨by kernel_rfl, ?_⟩) (by assumption) ?_; rotate_left; focus (intro V9 hS9; go_simp; (try (with_reducible rfl)); done))
  try simp only [Act.put, List.getElem_toArray, List.getElem_cons_succ, List.getElem_cons_zero, List.setIfInBounds_toArray, List.set_cons_succ, List.set_cons_zero]
  (refine wpAnyW_take (i := 2) (v := ?_) rfl (by kernel_rfl) (by kernel_rfl) (by kernel_rfl) (by kernel_rfl) (fun _ _ _ h => h) (Or.inl ⟨by kernel_rfl, ?_⟩) (by assumption) ?_; rotate_left; focus (intro V9 hS9; go_simp; (try (with_reducible rfl)); done))
  try simp only [Act.put, List.getElem_toArray, List.getElem_cons_succ, List.getElem_cons_zero, List.setIfInBounds_toArray, List.set_cons_succ, List.set_cons_zero]
  (refine wpAnyW_take (i := 3) (v := ?_) rfl (by kernel_rfl) (by kernel_rfl) (by kernel_rfl) (by kernel_rfl) (fun _ _ _ h => h) (Or.inl ⟨by kernel_rfl, ?_⟩) (by assumption) ?_; rotate_left; focus (intro V9 hS9; have c0 := (hS9.cell HCV.out.2.2.1).trans HCV.out.1; go_simp; (try (with_reducible rfl)); done))
  try simp only [Act.put, List.getElem_toArray, List.getElem_cons_succ, List.getElem_cons_zero, List.setIfInBounds_toArray, List.set_cons_succ, List.set_cons_zero]
  (refine wpAnyW_take (i := 4) (v := ?_) rfl (by kernel_rfl) (by kernel_rfl) (by kernel_rfl) (by kernel_rfl) (fun _ _ _ h => h) (Or.inl ⟨by kernel_rfl, ?_⟩) (by assumption) ?_; rotate_left; focus (intro V9 hS9; go_simp; (try (with_reducible rfl)); done))
  try simp only [Act.put, List.getElem_toArray, List.getElem_cons_succ, List.getElem_cons_zero, List.setIfInBounds_toArray, List.set_cons_succ, List.set_cons_zero]
  (refine wpAnyW_take (i := 5) (v := ?_) rfl (by kernel_rfl) (by kernel_rfl) (by kernel_rfl) (by kernel_rfl) (fun _ _ _ h => h) (Or.inl ⟨by kernel_rfl, ?_⟩) (by assumption) ?_; rotate_left; focus (intro V9 hS9; go_simp; (try (with_reducible rfl)); done))
  try simp only [Act.put, List.getElem_toArray, List.getElem_cons_succ, List.getElem_cons_zero, List.setIfInBounds_toArray, List.set_cons_succ, List.set_cons_zero]
  (refine wpAnyW_take (i := 6) (v := ?_) rfl (by kernel_rfl) (by kernel_rfl) (by kernel_rfl) (by kernel_rfl) (fun _ _ _ h => h) (Or.inl ⟨by kernel_rfl, ?_⟩) (by assumption) ?_; rotate_left; focus (intro V9 hS9; go_simp; (try (with_reducible rfl)); done))
  try simp only [Act.put, List.getElem_toArray, List.getElem_cons_succ, List.getElem_cons_zero, List.setIfInBounds_toArray, List.set_cons_succ, List.set_cons_zero]
  (refine wpAnyW_take (i := 7) (v := ?_) rfl (by kernel_rfl) (by kernel_rfl) (by kernel_rfl) (by kernel_rfl) (fun _ _ _ h => h) (Or.inl ⟨by kernel_rfl, ?_⟩) (by assumption) ?_; rotate_left; focus (intro V9 hS9; have c1 := (hS9.cell HCV.out.2.2.1).trans HCV.out.2.1; go_simp; (try (with_reducible rfl)); done))
  try simp only [Act.put, List.getElem_toArray, List.getElem_cons_succ, List.getElem_cons_zero, List.setIfInBounds_toArray, List.set_cons_succ, List.set_cons_zero]
  (refine wpAnyW_take (i := 8) (v := ?_) rfl (by kernel_rfl) (by kernel_rfl) (by kernel_rfl) (by kernel_rfl) (fun _ _ _ h => h) (Or.inl ⟨by kernel_rfl, ?_⟩) (by assumption) ?_; rotate_left; focus (intro V9 hS9; go_simp; (try (with_reducible rfl)); done))
  try simp only [Act.put, List.getElem_toArray, List.getElem_cons_succ, List.getElem_cons_zero, List.setIfInBounds_toArray, List.set_cons_succ, List.set_cons_zero]
  (refine wpAnyW_take (i := 9) (v := ?_) rfl (by kernel_rfl) (by kernel_rfl) (by kernel_rfl) (by kernel_rfl) (fun _ _ _ h => h) (Or.inl ⟨by kernel_rfl, ?_⟩) (by assumption) ?_; rotate_left; focus (intro V9 hS9; obtain ⟨_, _, _, t0, t1, t2, t3, t4, hlt⟩ := HCV.out; have t0 := (hS9.cell hlt).trans t0; have t1 := (hS9.cell hlt).trans t1; have t2 := (hS9.cell hlt).trans t2; have t3 := (hS9.cell hlt).trans t3; have t4 := (hS9.cell hlt).trans t4; go_simp; (try (with_reducible rfl)); done))
  try simp only [Act.put, List.getElem_toArray, List.getElem_cons_succ, List.getElem_cons_zero, List.setIfInBounds_toArray, List.set_cons_succ, List.set_cons_zero]
  refine wpAnyW_ready (rs := [10]) (by kernel_rfl) (by simp) ?_
  refine AllReadyW.cons rfl (fun K hK => ?_) AllReadyW.nil
  go_simp
  refine hK.out _ _ ((Below.refl _ _).drew.alloc (Nat.le_refl _) _) (fun _ => ?_)
  clear hK K
  try simp only [Act.put, List.getElem_toArray, List.getElem_cons_succ, List.getElem_cons_zero, List.setIfInBounds_toArray, List.set_cons_succ, List.set_cons_zero]
  refine wpAnyW_ready (rs := [11]) (by kernel_rfl) (by simp) ?_
  refine AllReadyW.consE rfl (by kernel_rfl) (fun K hK => ?_) AllReadyW.nil
  go_simp
  refine hK.out _ _ ?_
  clear hK K
  refine wpAnyW_done (by kernel_rfl) ?_ _
  go_upto_region 8 with (fail)
  refine wp_world (fun X => Blk X V3.heap.size 80 (tokC t) ∧ ZI pb A c T fin W s X) ?_ ?_
  · exact ⟨(Blk.new V3 _ (tokC t)), (HI3.out.tok t).keep (below_drewN (Below.refl _ _) 1)⟩
  have HGP := Lib.hid HCV.out.2.2.1
  clear HI3 HCV hS0 q1 q2 hd
  obtain ⟨g6, hg6⟩ : ∃ g6, V3.heap.size = g6 := ⟨_, rfl⟩
  rw [hg6] at HGP ⊢
  clear hg6
  rintro V4 ⟨hT4, hI4⟩
  have x0 : V4.cell? ⟨g6, 0, none⟩ = some (.int .i64 t.kind) := hT4.cell 0
  have x1 : V4.cell? ⟨g6, 1, none⟩ = some (.int .i64 t.int) := hT4.cell 1
  have x2 : V4.cell? ⟨g6, 2, none⟩ = some (.string ⟨t.text.toArray⟩) := hT4.cell 2
  have d1 : (t.kind == 1) = false := by have := HKD.out.1; simpa using this
  have d2 : (t.kind == 2) = false := by have := HKD.out.2.1; simpa using this
  have d3 : (t.kind == 3) = false := by have := HKD.out.2.2; simpa using this
  go_upto_region 18 with (fail)
  refine wp_world (fun X => ZI pb A c T fin W s X) hI4 ?_
  clear hT4 hI4 x0 x1 x2 d1 d2 d3 HTE HAE HGP hi HKD
  rw [← HPT.out]
  clear HPT
  intro V5 hI5
  go_upto_region 59 with (first
    | (go_at_call 21; with_reducible refine (HF0.out _ hI5.p).mono ?_; rintro e Vc0 ⟨rfl, hpc0, hfc0⟩)
    | (go_at_call 21; with_reducible refine (HF1.out _ hpc0).mono ?_; rintro e Vc1 ⟨rfl, hpc1, hfc1⟩)
    | (go_at_call 21; with_reducible refine (HF2.out _ hpc1).mono ?_; rintro e Vc2 ⟨rfl, hpc2, hfc2⟩)
    | (go_at_call 21; with_reducible refine (HF3.out _ hpc2).mono ?_; rintro e Vc3 ⟨rfl, hpc3, hfc3⟩)
    | (go_at_call 21; with_reducible refine (HF4.out _ hpc3).mono ?_; rintro e Vc4 ⟨rfl, hpc4, hfc4⟩)
    | (go_at_call 21; with_reducible refine (HF5.out _ hpc4).mono ?_; rintro e Vc5 ⟨rfl, hpc5, hfc5⟩)
    | (go_at_call 21; with_reducible refine (HF6.out _ hpc5).mono ?_; rintro e Vc6 ⟨rfl, hpc6, hfc6⟩))
  refine wp_world (fun X => ZI pb A c T fin W s X) (((((((hI5.act hpc0 hfc0).act hpc1 hfc1).act hpc2 hfc2).act hpc3 hfc3).act hpc4 hfc4).act hpc5 hfc5).act hpc6 hfc6) ?_
  clear hI5 hpc0 hfc0 HF0 hpc1 hfc1 HF1 hpc2 hfc2 HF2 hpc3 hfc3 HF3 hpc4 hfc4 HF4 hpc5 hfc5 HF5 hpc6 hfc6 HF6
  intro V6 hI
  go_upto_region 60 with (go_at_call 11; refine (HFL.out _ _ hI.p).mono ?_; rintro e V1 ⟨rfl, hp4, hf4⟩)
  refine wp_world (fun V => ZI pb A c T fin W (failP T fin 110 s) V) (hI.act hp4 hf4) ?_
  clear hI hp4 hf4
  intro V hI
  obtain ⟨z0, z1, z2, z3, z4, z5, z6, f0, f1, f2, f3, f4, f5, f6⟩ := zbx_facts hI.res
  go_wp2
  have hE := hI.give (leaf_ok 0 0 [] 0) (put7_fr V W.heap.size (.int .i64 0) (.int .i64 0) (.string ⟨#[]⟩) (.int .i64 0) (.slice none 0 0) (.slice none 0 0) (.slice none 0 0))
  refine q_bp_world (fun V => NBx V W.heap.size (⟨.mk 0 0 [] 0 [] [] [], none, 0, none, 0, none, 0⟩ : EN) ∧ (⟨.mk 0 0 [] 0 [] [] [], none, 0, none, 0, none, 0⟩ : EN).Ok (fun k => k < W.heap.size) V ∧ PAt pb A c T fin (failP T fin 110 s) V ∧ PFr pb W V) ⟨put7_blk hI.res _ _ _ _ _ _ _, hE⟩ ?_
  rintro V9 ⟨hB9, e1, e2, e3⟩
  obtain ⟨x0, x1, x2, x3, x4, x5, x6⟩ := hB9.cells
  obtain ⟨y9, hy9⟩ : ∃ y9, (⟨.mk 0 0 [] 0 [] [] [], none, 0, none, 0, none, 0⟩ : EN) = y9 := ⟨_, rfl⟩
  have HY9 : Hid (y9.t = r.1 ∧ (failP T fin 110 s) = r.2) := by rw [← hy9]; exact by rw [← HRE.out]; exact ⟨rfl, rfl⟩
  rw [hy9] at x0 x1 x2 x3 x4 x5 x6 e1
  exact bodyPost_ret (v := .agg #[.int .i64 y9.t.kind, .int .i64 y9.t.int, .string ⟨y9.t.name.toArray⟩, .int .i64 y9.t.at_, .slice y9.A y9.t.kids.length y9.c, .slice y9.B y9.t.clauses.length y9.d, .slice y9.C y9.t.body.length y9.e]) (by simp [results, Try.results77, go_sem, x0, x1, x2, x3, x4, x5, x6]) rfl ⟨y9, HY9.out.1, rfl, e1, by rw [← HY9.out.2]; exact e2, e3⟩

end
end
section
open Go.RowKit
set_option linter.unusedVariables false

section
variable {pb : Nat} {A : Option Addr} {c : Nat} {T : List Tok} {fin : Nat} {W : World}

set_option maxRecDepth 100000 in
set_option maxHeartbeats 8000000 in
theorem prim_after {n : Nat} {deep : Nat} {s : PS} {r : ND × PS} {t : Tok} (HE : NodeOk pb A c T fin 10 Lang.expr n) (HLI : ListOk pb A c T fin n) (hdp : deep + (n + 1) ≤ deepB) (he : s.e = 0) (ht : T[s.i]? = some t) (hk : t.kind ≠ 1 ∧ t.kind ≠ 2 ∧ t.kind ≠ 3) (hb0 : isP T sOpen s = false) (hb1 : isP T sLc s = false) (hb2 : isP T sLb s = false) (hb3 : isP T sFun s = false) (hb4 : isP T sCase s = false) (hb5 : isP T sReceive s = true) (haf : isP T sAfter (nextP s) = true) (hr : primW T fin (lang T fin n) deep s = some r) (hp : PAt pb A c T fin s W) :
    Calls Try.prog 77 #[.pointer (some ⟨pb, 0, none⟩), .int .i64 (deep : Int)] W (NEnd pb A c T fin W r) := by
  unfold primW at hr
  rw [hb0, if_neg (by simp), hb1, if_neg (by simp), hb2, if_neg (by simp), hb3, if_neg (by simp), hb4, if_neg (by simp), hb5, if_pos rfl] at hr
  have hdq : deep + (n + 1) ≤ 4611686018427387904 := hdp
  have q9 : IntKind.i64.wrap ((deep : Int) + 1) = ((deep + 1 : Nat) : Int) := by rw [IntKind.wrap_i64]; omega
  obtain ⟨pl, hpl⟩ : ∃ pl, placeP T fin s = pl := ⟨_, rfl⟩
  have hpt : pl = ((t.at_ : Nat) : Int) := by rw [← hpl]; unfold placeP; rw [ht]
  try rw [hpl] at hr
  rw [haf, if_pos rfl] at hr
  unfold recvB at hr
  rw [haf, if_pos rfl] at hr
  obtain ⟨q3, hq3, hl⟩ := bind_inv hr
  obtain ⟨q4, hq4, hl⟩ := bind_inv hl
  have HRE := Lib.hid (Option.some.inj hl)
  have HS3 : Hid (∀ V, PAt pb A c T fin (nextP (nextP s)) V → Calls Try.prog 10 #[.pointer (some ⟨pb, 0, none⟩), .int .i64 (((deep + 1 : Nat) : Nat) : Int)] V (NEnd pb A c T fin V q3)) := fun V hV => HE (deep + 1) _ V q3 (by omega) hq3 hV
  have HS4 : Hid (∀ V, PAt pb A c T fin (mustP T fin sArrow q3.2) V → Calls Try.prog 71 #[.pointer (some ⟨pb, 0, none⟩), .int .i64 (((deep + 1 : Nat) : Nat) : Int)] V (LEnd pb A c T fin V q4)) := fun V hV => HLI (deep + 1) _ V q4 (by omega) hq4 hV
  have HMO : Hid (∀ V, PAt pb A c T fin q3.2 V → Calls Try.prog 26 #[.pointer (some ⟨pb, 0, none⟩), .string ⟨#[45, 62]⟩] V fun r w' => r = .returned (.tuple #[]) ∧ PAt pb A c T fin (mustP T fin sArrow q3.2) w' ∧ PFr pb V w') := fun V hV => must_any hV sArrow
  have HME : Hid (∀ V, PAt pb A c T fin q4.2 V → Calls Try.prog 26 #[.pointer (some ⟨pb, 0, none⟩), .string ⟨#[101, 110, 100]⟩] V fun r w' => r = .returned (.tuple #[]) ∧ PAt pb A c T fin (mustP T fin sEnd q4.2) w' ∧ PFr pb V w') := fun V hV => must_any hV sEnd
  clear hq3 hq4 hl HE HLI
  have HTA : Hid (∀ V, PAt pb A c T fin (nextP s) V → Calls Try.prog 21 #[.pointer (some ⟨pb, 0, none⟩), .string ⟨#[97, 102, 116, 101, 114]⟩] V fun r w' => r = .returned (.bool true) ∧ PAt pb A c T fin (nextP (nextP s)) w' ∧ PFr pb V w') := fun V hV => by
    have := take_any hV sAfter
    rw [haf, if_pos rfl] at this
    exact this
  have HIA : Hid (∀ V, PAt pb A c T fin (nextP s) V → Calls Try.prog 38 #[.pointer (some ⟨pb, 0, none⟩), .string ⟨#[97, 102, 116, 101, 114]⟩] V fun r w' => r = .returned (.bool true) ∧ Below V.heap.size V w') := fun V hV => by
    have := is_any hV sAfter
    rw [haf] at this
    exact this
  clear haf
  have HF0 : Hid (∀ V, PAt pb A c T fin s V → Calls Try.prog 21 #[.pointer (some ⟨pb, 0, none⟩), .string ⟨#[40]⟩] V fun r w' => r = .returned (.bool false) ∧ PAt pb A c T fin s w' ∧ PFr pb V w') := fun V hV => by
    have := take_any hV sOpen
    rw [hb0, if_neg (by simp)] at this
    exact this
  have HF1 : Hid (∀ V, PAt pb A c T fin s V → Calls Try.prog 21 #[.pointer (some ⟨pb, 0, none⟩), .string ⟨#[123]⟩] V fun r w' => r = .returned (.bool false) ∧ PAt pb A c T fin s w' ∧ PFr pb V w') := fun V hV => by
    have := take_any hV sLc
    rw [hb1, if_neg (by simp)] at this
    exact this
  have HF2 : Hid (∀ V, PAt pb A c T fin s V → Calls Try.prog 21 #[.pointer (some ⟨pb, 0, none⟩), .string ⟨#[91]⟩] V fun r w' => r = .returned (.bool false) ∧ PAt pb A c T fin s w' ∧ PFr pb V w') := fun V hV => by
    have := take_any hV sLb
    rw [hb2, if_neg (by simp)] at this
    exact this
  have HF3 : Hid (∀ V, PAt pb A c T fin s V → Calls Try.prog 21 #[.pointer (some ⟨pb, 0, none⟩), .string ⟨#[102, 117, 110]⟩] V fun r w' => r = .returned (.bool false) ∧ PAt pb A c T fin s w' ∧ PFr pb V w') := fun V hV => by
    have := take_any hV sFun
    rw [hb3, if_neg (by simp)] at this
    exact this
  have HF4 : Hid (∀ V, PAt pb A c T fin s V → Calls Try.prog 21 #[.pointer (some ⟨pb, 0, none⟩), .string ⟨#[99, 97, 115, 101]⟩] V fun r w' => r = .returned (.bool false) ∧ PAt pb A c T fin s w' ∧ PFr pb V w') := fun V hV => by
    have := take_any hV sCase
    rw [hb4, if_neg (by simp)] at this
    exact this
  have HF5 : Hid (∀ V, PAt pb A c T fin s V → Calls Try.prog 21 #[.pointer (some ⟨pb, 0, none⟩), .string ⟨#[114, 101, 99, 101, 105, 118, 101]⟩] V fun r w' => r = .returned (.bool true) ∧ PAt pb A c T fin (nextP s) w' ∧ PFr pb V w') := fun V hV => by
    have := take_any hV sReceive
    rw [hb5, if_pos rfl] at this
    exact this
  clear hb0 hb1 hb2 hb3 hb4 hb5
  have HKD := Lib.hid hk
  clear hk
  have HPT := Lib.hid hpt
  clear hpt hpl
  have HST := Lib.hid (ZI.start hp)
  have hlen := hp.len
  have HPL : Hid (∀ V, PAt pb A c T fin s V → Calls Try.prog 20 #[.pointer (some ⟨pb, 0, none⟩)] V fun e w' => e = .returned (.int .i64 ((t.at_ : Nat) : Int)) ∧ Below V.heap.size V w') := fun V hV => by
    have h9 : placeP T fin s = ((t.at_ : Nat) : Int) := by unfold placeP; rw [ht]
    rw [← h9]
    exact place_any hV
  obtain ⟨hi, hte⟩ := List.getElem?_eq_some_iff.1 ht
  have HTE := Lib.hid hte
  have hd : decide (T.length ≤ s.i) = false := by simpa using hi
  have HE := Lib.hid he
  clear hr he hp ht hte
  go_enter Try.func77, Try.ntmps77
  go_upto_region 1 with (fail)
  refine wp_world (fun V => ZI pb A c T fin W s V) HST.out ?_
  clear HST
  intro V0 hI0
  obtain ⟨c0, c1, c2, c3, c4⟩ := hI0.p.cells
  rw [HE.out] at c3
  go_upto_region 4 with (go_at_call 20; refine (HPL.out _ hI0.p).mono ?_; rintro e V1 ⟨rfl, hb1⟩)
  refine wp_world (fun V => ZI pb A c T fin W s V) (hI0.keep hb1) ?_
  clear hI0 hb1 c0 c1 c2 c3 c4 HPL
  intro V2 hI2
  obtain ⟨c0, c1, c2, c3, c4⟩ := hI2.p.cells
  have HI2 := Lib.hid hI2
  clear hI2
  go_quiet (fail)
  go_wp2
  refine wp_world (fun V => ZI pb A c T fin W s V) (HI2.out.keep (below_drewN (Below.refl _ _) _)) ?_
  clear HI2 c0 c1 c2 c3 c4
  intro V3 hI3
  obtain ⟨c0, c1, c2, c3, c4⟩ := hI3.p.cells
  have q1 : (0 : Int) ≤ (s.i : Int) := by omega
  have q2 : (s.i : Int) < (T.length : Int) := by omega
  have htk := hI3.p.toks.at_ hi
  rw [HTE.out] at htk
  obtain ⟨b, o, hAe, hlt, t0, t1, t2, t3, t4⟩ := htk
  rw [hAe] at c0
  have HCV : Hid (V3.cell? ⟨pb, 0, none⟩ = some (.slice (some ⟨b, o, none⟩) T.length c) ∧ V3.cell? ⟨pb, 1, none⟩ = some (.int .i64 (s.i : Int)) ∧ pb < V3.heap.size ∧ V3.cell? ⟨b, o + s.i * 5, none⟩ = some (.int .i64 t.kind) ∧ V3.cell? ⟨b, o + s.i * 5 + 1, none⟩ = some (.int .i64 t.int) ∧ V3.cell? ⟨b, o + s.i * 5 + 2, none⟩ = some (.string ⟨t.text.toArray⟩) ∧ V3.cell? ⟨b, o + s.i * 5 + 3, none⟩ = some (.int .i64 ((t.at_ : Nat) : Int)) ∧ V3.cell? ⟨b, o + s.i * 5 + 4, none⟩ = some (.int .i64 ((t.fin : Nat) : Int)) ∧ b < V3.heap.size) := ⟨c0, c1, hI3.p.obj.lt, t0, t1, t2, t3, t4, hlt⟩
  have HI3 := Lib.hid hI3
  have HAE := Lib.hid hAe
  clear hI3 c0 c1 c2 c3 c4 t0 t1 t2 t3 t4 hlt hAe
  refine wp_region_W 11 (fun X => Below V3.heap.size V3 X) (by kernel_rfl) ?_ (fun hS0 => ?_)
  · exact (Below.refl _ _).drew
  (refine wpAnyW_take (i := 0) (v := ?_) rfl (by kernel_rfl) (by kernel_rfl) (by kernel_rfl) (by kernel_rfl) (fun _ _ _ h => h) (Or.inl ⟨by kernel_rfl, ?_⟩) (by assumption) ?_; rotate_left; focus (intro V9 hS9; go_simp; (try (with_reducible rfl)); done))
  try simp only [Act.put, List.getElem_toArray, List.getElem_cons_zero, List.setIfInBounds_toArray, List.set_cons_succ, List.set_cons_zero]
  (refine wpAnyW_take (i := 1) (v := ?_) rfl (by kernel_rfl) (by kernel_rfl) (by kernel_rfl) (by kernel_rfl) (fun _ _ _ h => h) (Or.inl ⟨by kernel_rfl, ?_⟩) (by assumption) ?_; rotate_left; focus (intro V9 hS9; go_simp; (try (with_reducible rfl)); done))
  try simp only [Act.put, List.getElem_toArray, List.getElem_cons_succ, List.getElem_cons_zero, List.setIfInBounds_toArray, List.set_cons_succ, List.set_cons_zero]
  (refine wpAnyW_take (i := 2) (v := ?_) rfl (by kernel_rfl) (by kernel_rfl) (by kernel_rfl) (by kernel_rfl) (fun _ _ _ h => h) (Or.inl ⟨by kernel_rfl, ?_⟩) (by assumption) ?_; rotate_left; focus (intro V9 hS9; go_simp; (try (with_reducible rfl)); done))
  try simp only [Act.put, List.getElem_toArray, List.getElem_cons_succ, List.getElem_cons_zero, List.setIfInBounds_toArray, List.set_cons_succ, List.set_cons_zero]
  (refine wpAnyW_take (i := 3) (v := ?_) rfl (by kernel_rfl) (by kernel_rfl) (by kernel_rfl) (by kernel_rfl) (fun _ _ _ h => h) (Or.inl ⟨by kernel_rfl, ?_⟩) (by assumption) ?_; rotate_left; focus (intro V9 hS9; have c0 := (hS9.cell HCV.out.2.2.1).trans HCV.out.1; go_simp; (try (with_reducible rfl)); done))
  try simp only [Act.put, List.getElem_toArray, List.getElem_cons_succ, List.getElem_cons_zero, List.setIfInBounds_toArray, List.set_cons_succ, List.set_cons_zero]
  (refine wpAnyW_take (i := 4) (v := ?_) rfl (by kernel_rfl) (by kernel_rfl) (by kernel_rfl) (by kernel_rfl) (fun _ _ _ h => h) (Or.inl ⟨by kernel_rfl, ?_⟩) (by assumption) ?_; rotate_left; focus (intro V9 hS9; go_simp; (try (with_reducible rfl)); done))
  try simp only [Act.put, List.getElem_toArray, List.getElem_cons_succ, List.getElem_cons_zero, List.setIfInBounds_toArray, List.set_cons_succ, List.set_cons_zero]
  (refine wpAnyW_take (i := 5) (v := ?_) rfl (by kernel_rfl) (by kernel_rfl) (by kernel_rfl) (by kernel_rfl) (fun _ _ _ h => h) (Or.inl ⟨by kernel_rfl, ?_⟩) (by assumption) ?_; rotate_left; focus (intro V9 hS9; go_simp; (try (with_reducible rfl)); done))
  try simp only [Act.put, List.getElem_toArray, List.getElem_cons_succ, List.getElem_cons_zero, List.setIfInBounds_toArray, List.set_cons_succ, List.set_cons_zero]
  (refine wpAnyW_take (i := 6) (v := ?_) rfl (by kernel_rfl) (by kernel_rfl) (by kernel_rfl) (by kernel_rfl) (fun _ _ _ h => h) (Or.inl ⟨by kernel_rfl, ?_⟩) (by assumption) ?_; rotate_left; focus (intro V9 hS9; go_simp; (try (with_reducible rfl)); done))
  try simp only [Act.put, List.getElem_toArray, List.getElem_cons_succ, List.getElem_cons_zero, List.setIfInBounds_toArray, List.set_cons_succ, List.set_cons_zero]
  (refine wpAnyW_take (i := 7) (v := ?_) rfl (by kernel_rfl) (by kernel_rfl) (by kernel_rfl) (by kernel_rfl) (fun _ _ _ h => h) (Or.inl ⟨by kernel_rfl, ?_⟩) (by assumption) ?_; rotate_left; focus (intro V9 hS9; have c1 := (hS9.cell HCV.out.2.2.1).trans HCV.out.2.1; go_simp; (try (with_reducible rfl)); done))
  try simp only [Act.put, List.getElem_toArray, List.getElem_cons_succ, List.getElem_cons_zero, List.setIfInBounds_toArray, List.set_cons_succ, List.set_cons_zero]
  (refine wpAnyW_take (i := 8) (v := ?_) rfl (by kernel_rfl) (by kernel_rfl) (by kernel_rfl) (by kernel_rfl) (fun _ _ _ h => h) (Or.inl ⟨by kernel_rfl, ?_⟩) (by assumption) ?_; rotate_left; focus (intro V9 hS9; go_simp; (try (with_reducible rfl)); done))
  try simp only [Act.put, List.getElem_toArray, List.getElem_cons_succ, List.getElem_cons_zero, List.setIfInBounds_toArray, List.set_cons_succ, List.set_cons_zero]
  (refine wpAnyW_take (i := 9) (v := ?_) rfl (by kernel_rfl) (by kernel_rfl) (by kernel_rfl) (by kernel_rfl) (fun _ _ _ h => h) (Or.inl ⟨by kernel_rfl, ?_⟩) (by assumption) ?_; rotate_left; focus (intro V9 hS9; obtain ⟨_, _, _, t0, t1, t2, t3, t4, hlt⟩ := HCV.out; have t0 := (hS9.cell hlt).trans t0; have t1 := (hS9.cell hlt).trans t1; have t2 := (hS9.cell hlt).trans t2; have t3 := (hS9.cell hlt).trans t3; have t4 := (hS9.cell hlt).trans t4; go_simp; (try (with_reducible rfl)); done))
  try simp only [Act.put, List.getElem_toArray, List.getElem_cons_succ, List.getElem_cons_zero, List.setIfInBounds_toArray, List.set_cons_succ, List.set_cons_zero]
  refine wpAnyW_ready (rs := [10]) (by kernel_rfl) (by simp) ?_
  refine AllReadyW.cons rfl (fun K hK => ?_) AllReadyW.nil
  go_simp
  refine hK.out _ _ ((Below.refl _ _).drew.alloc (Nat.le_refl _) _) (fun _ => ?_)
  clear hK K
  try simp only [Act.put, List.getElem_toArray, List.getElem_cons_succ, List.getElem_cons_zero, List.setIfInBounds_toArray, List.set_cons_succ, List.set_cons_zero]
  refine wpAnyW_ready (rs := [11]) (by kernel_rfl) (by simp) ?_
  refine AllReadyW.consE rfl (by kernel_rfl) (fun K hK => ?_) AllReadyW.nil
  go_simp
  refine hK.out _ _ ?_
  clear hK K
  refine wpAnyW_done (by kernel_rfl) ?_ _
  go_upto_region 8 with (fail)
  refine wp_world (fun X => Blk X V3.heap.size 80 (tokC t) ∧ ZI pb A c T fin W s X) ?_ ?_
  · exact ⟨(Blk.new V3 _ (tokC t)), (HI3.out.tok t).keep (below_drewN (Below.refl _ _) 1)⟩
  have HGP := Lib.hid HCV.out.2.2.1
  clear HI3 HCV hS0 q1 q2 hd
  obtain ⟨g6, hg6⟩ : ∃ g6, V3.heap.size = g6 := ⟨_, rfl⟩
  rw [hg6] at HGP ⊢
  clear hg6
  rintro V4 ⟨hT4, hI4⟩
  have x0 : V4.cell? ⟨g6, 0, none⟩ = some (.int .i64 t.kind) := hT4.cell 0
  have x1 : V4.cell? ⟨g6, 1, none⟩ = some (.int .i64 t.int) := hT4.cell 1
  have x2 : V4.cell? ⟨g6, 2, none⟩ = some (.string ⟨t.text.toArray⟩) := hT4.cell 2
  have d1 : (t.kind == 1) = false := by have := HKD.out.1; simpa using this
  have d2 : (t.kind == 2) = false := by have := HKD.out.2.1; simpa using this
  have d3 : (t.kind == 3) = false := by have := HKD.out.2.2; simpa using this
  go_upto_region 18 with (fail)
  refine wp_world (fun X => ZI pb A c T fin W s X) hI4 ?_
  clear hT4 hI4 x0 x1 x2 d1 d2 d3 HTE HAE HGP hi HKD
  rw [← HPT.out]
  clear HPT
  intro V5 hI5
  go_upto_region 44 with (first
    | (go_at_call 21; with_reducible refine (HF0.out _ hI5.p).mono ?_; rintro e Vc0 ⟨rfl, hpc0, hfc0⟩)
    | (go_at_call 21; with_reducible refine (HF1.out _ hpc0).mono ?_; rintro e Vc1 ⟨rfl, hpc1, hfc1⟩)
    | (go_at_call 21; with_reducible refine (HF2.out _ hpc1).mono ?_; rintro e Vc2 ⟨rfl, hpc2, hfc2⟩)
    | (go_at_call 21; with_reducible refine (HF3.out _ hpc2).mono ?_; rintro e Vc3 ⟨rfl, hpc3, hfc3⟩)
    | (go_at_call 21; with_reducible refine (HF4.out _ hpc3).mono ?_; rintro e Vc4 ⟨rfl, hpc4, hfc4⟩)
    | (go_at_call 21; with_reducible refine (HF5.out _ hpc4).mono ?_; rintro e Vc5 ⟨rfl, hpc5, hfc5⟩))
  refine wp_world (fun X => ZI pb A c T fin W (nextP s) X) ((((((hI5.act hpc0 hfc0).act hpc1 hfc1).act hpc2 hfc2).act hpc3 hfc3).act hpc4 hfc4).act hpc5 hfc5) ?_
  clear hI5 hpc0 hfc0 HF0 hpc1 hfc1 HF1 hpc2 hfc2 HF2 hpc3 hfc3 HF3 hpc4 hfc4 HF4 hpc5 hfc5 HF5
  intro V6 hI
  go_upto_region 45 with (fail)
  have hI8 := hI.make (leaf_ok 15 0 [] pl)
  obtain ⟨g, hg⟩ : ∃ g, V6.heap.size = g := ⟨_, rfl⟩
  rw [hg] at hI8 ⊢
  refine wp_world (fun V => BinI pb A c T fin W g ⟨.mk 15 0 [] pl [] [] [], none, 0, none, 0, none, 0⟩ (nextP s) V) hI8 ?_
  clear hI8 hI hg
  intro V8 hI8
  go_upto_region 47 with (go_at_call 38; refine (HIA.out _ hI8.p).mono ?_; rintro e V7 ⟨rfl, hb7⟩)
  refine wp_world (fun V => BinI pb A c T fin W g ⟨.mk 15 0 [] pl [] [] [], none, 0, none, 0, none, 0⟩ (nextP s) V) (hI8.keep hb7) ?_
  clear hI8 hb7 HIA
  intro V8 hI8
  go_upto_region 48 with (go_at_call 21; refine (HTA.out _ hI8.p).mono ?_; rintro e V7 ⟨rfl, hp7, hf7⟩)
  refine wp_world (fun V => BinI pb A c T fin W g ⟨.mk 15 0 [] pl [] [] [], none, 0, none, 0, none, 0⟩ (nextP (nextP s)) V) (hI8.act hp7 hf7) ?_
  clear hI8 hp7 hf7 HTA
  intro V8 hI8
  go_upto_region 49 with (go_at_call 10; refine (HS3.out _ hI8.p).mono ?_; rintro e V7 ⟨x, hx, rfl, hok, hp7, hf7⟩; replace hx := Lib.hid hx; have hI9 := hI8.act hp7 hf7; have fz := hI9.a.frozen 4; have c5 := hI9.a.cell 4; have hlt7 := hI9.a.lt)
  have hgl := hI8.a.lt
  have hgg := hI8.g
  have hx3 : x.Ok (fun k => k ≤ W.heap.size ∨ k = g) V7 := hok.move (.sub_ fun k _ hk => by show k < V8.heap.size; rcases hk with hk | hk <;> omega)
  have hS := setC_fr V7 g 4 (.slice (some ⟨V7.heap.size, 0, none⟩) 1 1)
  have hsz := size_setCell V7 ⟨g, 4, none⟩ (.slice (some ⟨V7.heap.size, 0, none⟩) 1 1)
  have hx4 : x.Ok (fun k => k ≤ W.heap.size ∨ k = g) (V7.setCell ⟨g, 4, none⟩ (.slice (some ⟨V7.heap.size, 0, none⟩) 1 1)) := hx3.move (.of_fr hS (fun k hk => .inr hk) fun _ _ h => h)
  have hrd4 := one_ok hx4 (by show ¬ (_ ≤ W.heap.size ∨ _ = g); rw [hsz]; omega) (cs := (enL [x]).toArray) rfl
  have hba := below_alloc (V7.setCell ⟨g, 4, none⟩ (.slice (some ⟨V7.heap.size, 0, none⟩) 1 1)) (.cells (enL [x]).toArray 26)
  rw [hsz] at hrd4
  have hFA : Fr (fun k => k = g) V7 ((V7.setCell ⟨g, 4, none⟩ (.slice (some ⟨V7.heap.size, 0, none⟩) 1 1)).alloc (.cells (enL [x]).toArray 26)) := hS.same (Fr.of_below hba _)
  have hmv : Mv (fun k => k ≤ W.heap.size ∨ k = g) V7 (fun k => k ≤ W.heap.size ∨ k = g) ((V7.setCell ⟨g, 4, none⟩ (.slice (some ⟨V7.heap.size, 0, none⟩) 1 1)).alloc (.cells (enL [x]).toArray 26)) := .of_fr hFA (fun k hk => .inr hk) fun _ _ h => h
  have hJ : BinI pb A c T fin W g ⟨.mk 15 0 [] pl [x.t] [] [], some ⟨V7.heap.size, 0, none⟩, 1, none, 0, none, 0⟩ q3.2 ((V7.setCell ⟨g, 4, none⟩ (.slice (some ⟨V7.heap.size, 0, none⟩) 1 1)).alloc (.cells (enL [x]).toArray 26)) :=
    ⟨hI9.p.far hFA (by have := hI9.pb; have := hI9.g; show ¬ pb = g; omega) (fun b o e => by have := hI9.p.apart b o e; have := hI9.pb; have := hI9.g; show ¬ b = g; omega), hI9.fr.trans hFA (fun k hk e => by have h9 : k = g := e; have := hI9.g; omega), hFA.blk hI9.res (by have := hI9.g; show ¬ W.heap.size = g; omega), (hI9.a.set_ 4 _).alloc _, ⟨hrd4, hI9.ok.clauses.move hmv, hI9.ok.body.move hmv⟩, hI9.g, hI9.pb⟩
  obtain ⟨gk, hgk⟩ : ∃ gk, V7.heap.size = gk := ⟨_, rfl⟩
  rw [hgk] at hJ ⊢
  refine wp_world (fun V => BinI pb A c T fin W g ⟨.mk 15 0 [] pl [x.t] [] [], some ⟨gk, 0, none⟩, 1, none, 0, none, 0⟩ q3.2 V) hJ ?_
  clear hJ hmv hFA hba hrd4 hx4 hsz hS hx3 hgl hgg hlt7 fz c5 hI9 hI8 hok hp7 hf7 hgk HS3
  intro V8 hI8
  go_upto_region 50 with (go_at_call 26; refine (HMO.out _ hI8.p).mono ?_; rintro e V7 ⟨rfl, hp7, hf7⟩)
  refine wp_world (fun V => BinI pb A c T fin W g ⟨.mk 15 0 [] pl [x.t] [] [], some ⟨gk, 0, none⟩, 1, none, 0, none, 0⟩ (mustP T fin sArrow q3.2) V) (hI8.act hp7 hf7) ?_
  clear hI8 hp7 hf7 HMO
  intro V8 hI8
  go_upto_region 51 with (go_at_call 71; refine (HS4.out _ hI8.p).mono ?_; rintro e V7 ⟨C, ec, rfl, hrc, hp7, hf7⟩; have hI9 := hI8.act hp7 hf7; have hof := hI8.off hrc; have fz := hI9.a.frozen 6; have c5 := hI9.a.cell 6)
  have hJ := hI9.put (y := ⟨.mk 15 0 [] pl [x.t] [] q4.1, some ⟨gk, 0, none⟩, 1, none, 0, C, ec⟩) ⟨hI9.ok.kids, hI9.ok.clauses, hof⟩ (setC_fr V7 g 6 (.slice C q4.1.length ec)) (hI9.a.set_ 6 (.slice C q4.1.length ec))
  refine wp_world (fun V => BinI pb A c T fin W g ⟨.mk 15 0 [] pl [x.t] [] q4.1, some ⟨gk, 0, none⟩, 1, none, 0, C, ec⟩ q4.2 V) hJ ?_
  clear hJ hI9 hof fz c5 hI8 hp7 hf7 hrc HS4
  intro V8 hI8
  go_upto_region 52 with (go_at_call 26; refine (HME.out _ hI8.p).mono ?_; rintro e V7 ⟨rfl, hp7, hf7⟩)
  refine wp_world (fun V => BinI pb A c T fin W g ⟨.mk 15 0 [] pl [x.t] [] q4.1, some ⟨gk, 0, none⟩, 1, none, 0, C, ec⟩ (mustP T fin sEnd q4.2) V) (hI8.act hp7 hf7) ?_
  clear hI8 hp7 hf7 HME
  intro V9 hI
  obtain ⟨y, hy⟩ : ∃ y : EN, (⟨.mk 15 0 [] pl [x.t] [] q4.1, some ⟨gk, 0, none⟩, 1, none, 0, C, ec⟩ : EN) = y := ⟨_, rfl⟩
  have HY9 : Hid (y.t = r.1 ∧ (mustP T fin sEnd q4.2) = r.2) := by rw [← hy]; exact by rw [← HRE.out, ← hx.out]; exact ⟨rfl, rfl⟩
  rw [hy] at hI
  clear hy
  obtain ⟨a0, a1, a2, a3, a4, a5, a6⟩ := hI.a.cells
  obtain ⟨z0, z1, z2, z3, z4, z5, z6, f0, f1, f2, f3, f4, f5, f6⟩ := zbx_facts hI.res
  go_wp2
  refine q_bp_world (fun V => NBx V W.heap.size y ∧ Fr (fun k => k = W.heap.size) V9 V) ⟨put7_blk hI.res _ _ _ _ _ _ _, put7_fr _ _ _ _ _ _ _ _ _⟩ ?_
  rintro V10 ⟨hB6, hF6⟩
  obtain ⟨x0, x1, x2, x3, x4, x5, x6⟩ := hB6.cells
  obtain ⟨e1, e2, e3⟩ := hI.fin_ hF6
  exact bodyPost_ret (v := .agg #[.int .i64 y.t.kind, .int .i64 y.t.int, .string ⟨y.t.name.toArray⟩, .int .i64 y.t.at_, .slice y.A y.t.kids.length y.c, .slice y.B y.t.clauses.length y.d, .slice y.C y.t.body.length y.e]) (by simp [results, Try.results77, go_sem, x0, x1, x2, x3, x4, x5, x6]) rfl ⟨y, HY9.out.1, rfl, e1, by rw [← HY9.out.2]; exact e2, e3⟩

set_option maxRecDepth 100000 in
set_option maxHeartbeats 8000000 in
theorem prim_recv_armsafter {n : Nat} {deep : Nat} {s : PS} {r : ND × PS} {t : Tok} (HE : NodeOk pb A c T fin 10 Lang.expr n) (HLI : ListOk pb A c T fin n) (HA : ArmsOk pb A c T fin n) {q2 : List CD × PS} (hq2 : (lang T fin n).arms (deep + 1) [] (nextP s) = some q2) (hdp : deep + (n + 1) ≤ deepB) (he : s.e = 0) (ht : T[s.i]? = some t) (hk : t.kind ≠ 1 ∧ t.kind ≠ 2 ∧ t.kind ≠ 3) (hb0 : isP T sOpen s = false) (hb1 : isP T sLc s = false) (hb2 : isP T sLb s = false) (hb3 : isP T sFun s = false) (hb4 : isP T sCase s = false) (hb5 : isP T sReceive s = true) (hai : isP T sAfter (nextP s) = false) (haf : isP T sAfter q2.2 = true) (hr : primW T fin (lang T fin n) deep s = some r) (hp : PAt pb A c T fin s W) :
    Calls Try.prog 77 #[.pointer (some ⟨pb, 0, none⟩), .int .i64 (deep : Int)] W (NEnd pb A c T fin W r) := by
  unfold primW at hr
  rw [hb0, if_neg (by simp), hb1, if_neg (by simp), hb2, if_neg (by simp), hb3, if_neg (by simp), hb4, if_neg (by simp), hb5, if_pos rfl] at hr
  have hdq : deep + (n + 1) ≤ 4611686018427387904 := hdp
  have q9 : IntKind.i64.wrap ((deep : Int) + 1) = ((deep + 1 : Nat) : Int) := by rw [IntKind.wrap_i64]; omega
  obtain ⟨pl, hpl⟩ : ∃ pl, placeP T fin s = pl := ⟨_, rfl⟩
  have hpt : pl = ((t.at_ : Nat) : Int) := by rw [← hpl]; unfold placeP; rw [ht]
  try rw [hpl] at hr
  rw [hai, if_neg (by simp), hq2] at hr
  simp only [Option.bind_some] at hr
  unfold recvB at hr
  rw [haf, if_pos rfl] at hr
  have HS2 : Hid (∀ V, PAt pb A c T fin (nextP s) V → Calls Try.prog 79 #[.pointer (some ⟨pb, 0, none⟩), .int .i64 (((deep + 1 : Nat) : Nat) : Int)] V (KEnd pb A c T fin V q2)) := fun V hV => HA (deep + 1) _ V q2 (by omega) hq2 hV
  obtain ⟨q3, hq3, hl⟩ := bind_inv hr
  obtain ⟨q4, hq4, hl⟩ := bind_inv hl
  have HRE := Lib.hid (Option.some.inj hl)
  have HS3 : Hid (∀ V, PAt pb A c T fin (nextP q2.2) V → Calls Try.prog 10 #[.pointer (some ⟨pb, 0, none⟩), .int .i64 (((deep + 1 : Nat) : Nat) : Int)] V (NEnd pb A c T fin V q3)) := fun V hV => HE (deep + 1) _ V q3 (by omega) hq3 hV
  have HS4 : Hid (∀ V, PAt pb A c T fin (mustP T fin sArrow q3.2) V → Calls Try.prog 71 #[.pointer (some ⟨pb, 0, none⟩), .int .i64 (((deep + 1 : Nat) : Nat) : Int)] V (LEnd pb A c T fin V q4)) := fun V hV => HLI (deep + 1) _ V q4 (by omega) hq4 hV
  have HMO : Hid (∀ V, PAt pb A c T fin q3.2 V → Calls Try.prog 26 #[.pointer (some ⟨pb, 0, none⟩), .string ⟨#[45, 62]⟩] V fun r w' => r = .returned (.tuple #[]) ∧ PAt pb A c T fin (mustP T fin sArrow q3.2) w' ∧ PFr pb V w') := fun V hV => must_any hV sArrow
  have HME : Hid (∀ V, PAt pb A c T fin q4.2 V → Calls Try.prog 26 #[.pointer (some ⟨pb, 0, none⟩), .string ⟨#[101, 110, 100]⟩] V fun r w' => r = .returned (.tuple #[]) ∧ PAt pb A c T fin (mustP T fin sEnd q4.2) w' ∧ PFr pb V w') := fun V hV => must_any hV sEnd
  clear hq3 hq4 hl HE HLI
  have HTA : Hid (∀ V, PAt pb A c T fin q2.2 V → Calls Try.prog 21 #[.pointer (some ⟨pb, 0, none⟩), .string ⟨#[97, 102, 116, 101, 114]⟩] V fun r w' => r = .returned (.bool true) ∧ PAt pb A c T fin (nextP q2.2) w' ∧ PFr pb V w') := fun V hV => by
    have := take_any hV sAfter
    rw [haf, if_pos rfl] at this
    exact this
  have HIA : Hid (∀ V, PAt pb A c T fin (nextP s) V → Calls Try.prog 38 #[.pointer (some ⟨pb, 0, none⟩), .string ⟨#[97, 102, 116, 101, 114]⟩] V fun r w' => r = .returned (.bool false) ∧ Below V.heap.size V w') := fun V hV => by
    have := is_any hV sAfter
    rw [hai] at this
    exact this
  clear haf hai hq2 HA
  have HF0 : Hid (∀ V, PAt pb A c T fin s V → Calls Try.prog 21 #[.pointer (some ⟨pb, 0, none⟩), .string ⟨#[40]⟩] V fun r w' => r = .returned (.bool false) ∧ PAt pb A c T fin s w' ∧ PFr pb V w') := fun V hV => by
    have := take_any hV sOpen
    rw [hb0, if_neg (by simp)] at this
    exact this
  have HF1 : Hid (∀ V, PAt pb A c T fin s V → Calls Try.prog 21 #[.pointer (some ⟨pb, 0, none⟩), .string ⟨#[123]⟩] V fun r w' => r = .returned (.bool false) ∧ PAt pb A c T fin s w' ∧ PFr pb V w') := fun V hV => by
    have := take_any hV sLc
    rw [hb1, if_neg (by simp)] at this
    exact this
  have HF2 : Hid (∀ V, PAt pb A c T fin s V → Calls Try.prog 21 #[.pointer (some ⟨pb, 0, none⟩), .string ⟨#[91]⟩] V fun r w' => r = .returned (.bool false) ∧ PAt pb A c T fin s w' ∧ PFr pb V w') := fun V hV => by
    have := take_any hV sLb
    rw [hb2, if_neg (by simp)] at this
    exact this
  have HF3 : Hid (∀ V, PAt pb A c T fin s V → Calls Try.prog 21 #[.pointer (some ⟨pb, 0, none⟩), .string ⟨#[102, 117, 110]⟩] V fun r w' => r = .returned (.bool false) ∧ PAt pb A c T fin s w' ∧ PFr pb V w') := fun V hV => by
    have := take_any hV sFun
    rw [hb3, if_neg (by simp)] at this
    exact this
  have HF4 : Hid (∀ V, PAt pb A c T fin s V → Calls Try.prog 21 #[.pointer (some ⟨pb, 0, none⟩), .string ⟨#[99, 97, 115, 101]⟩] V fun r w' => r = .returned (.bool false) ∧ PAt pb A c T fin s w' ∧ PFr pb V w') := fun V hV => by
    have := take_any hV sCase
    rw [hb4, if_neg (by simp)] at this
    exact this
  have HF5 : Hid (∀ V, PAt pb A c T fin s V → Calls Try.prog 21 #[.pointer (some ⟨pb, 0, none⟩), .string ⟨#[114, 101, 99, 101, 105, 118, 101]⟩] V fun r w' => r = .returned (.bool true) ∧ PAt pb A c T fin (nextP s) w' ∧ PFr pb V w') := fun V hV => by
    have := take_any hV sReceive
    rw [hb5, if_pos rfl] at this
    exact this
  clear hb0 hb1 hb2 hb3 hb4 hb5
  have HKD := Lib.hid hk
  clear hk
  have HPT := Lib.hid hpt
  clear hpt hpl
  have HST := Lib.hid (ZI.start hp)
  have hlen := hp.len
  have HPL : Hid (∀ V, PAt pb A c T fin s V → Calls Try.prog 20 #[.pointer (some ⟨pb, 0, none⟩)] V fun e w' => e = .returned (.int .i64 ((t.at_ : Nat) : Int)) ∧ Below V.heap.size V w') := fun V hV => by
    have h9 : placeP T fin s = ((t.at_ : Nat) : Int) := by unfold placeP; rw [ht]
    rw [← h9]
    exact place_any hV
  obtain ⟨hi, hte⟩ := List.getElem?_eq_some_iff.1 ht
  have HTE := Lib.hid hte
  have hd : decide (T.length ≤ s.i) = false := by simpa using hi
  have HE := Lib.hid he
  clear hr he hp ht hte
  go_enter Try.func77, Try.ntmps77
  go_upto_region 1 with (fail)
  refine wp_world (fun V => ZI pb A c T fin W s V) HST.out ?_
  clear HST
  intro V0 hI0
  obtain ⟨c0, c1, c2, c3, c4⟩ := hI0.p.cells
  rw [HE.out] at c3
  go_upto_region 4 with (go_at_call 20; refine (HPL.out _ hI0.p).mono ?_; rintro e V1 ⟨rfl, hb1⟩)
  refine wp_world (fun V => ZI pb A c T fin W s V) (hI0.keep hb1) ?_
  clear hI0 hb1 c0 c1 c2 c3 c4 HPL
  intro V2 hI2
  obtain ⟨c0, c1, c2, c3, c4⟩ := hI2.p.cells
  have HI2 := Lib.hid hI2
  clear hI2
  go_quiet (fail)
  go_wp2
  refine wp_world (fun V => ZI pb A c T fin W s V) (HI2.out.keep (below_drewN (Below.refl _ _) _)) ?_
  clear HI2 c0 c1 c2 c3 c4
  intro V3 hI3
  obtain ⟨c0, c1, c2, c3, c4⟩ := hI3.p.cells
  have q1 : (0 : Int) ≤ (s.i : Int) := by omega
  have q2 : (s.i : Int) < (T.length : Int) := by omega
  have htk := hI3.p.toks.at_ hi
  rw [HTE.out] at htk
  obtain ⟨b, o, hAe, hlt, t0, t1, t2, t3, t4⟩ := htk
  rw [hAe] at c0
  have HCV : Hid (V3.cell? ⟨pb, 0, none⟩ = some (.slice (some ⟨b, o, none⟩) T.length c) ∧ V3.cell? ⟨pb, 1, none⟩ = some (.int .i64 (s.i : Int)) ∧ pb < V3.heap.size ∧ V3.cell? ⟨b, o + s.i * 5, none⟩ = some (.int .i64 t.kind) ∧ V3.cell? ⟨b, o + s.i * 5 + 1, none⟩ = some (.int .i64 t.int) ∧ V3.cell? ⟨b, o + s.i * 5 + 2, none⟩ = some (.string ⟨t.text.toArray⟩) ∧ V3.cell? ⟨b, o + s.i * 5 + 3, none⟩ = some (.int .i64 ((t.at_ : Nat) : Int)) ∧ V3.cell? ⟨b, o + s.i * 5 + 4, none⟩ = some (.int .i64 ((t.fin : Nat) : Int)) ∧ b < V3.heap.size) := ⟨c0, c1, hI3.p.obj.lt, t0, t1, t2, t3, t4, hlt⟩
  have HI3 := Lib.hid hI3
  have HAE := Lib.hid hAe
  clear hI3 c0 c1 c2 c3 c4 t0 t1 t2 t3 t4 hlt hAe
  refine wp_region_W 11 (fun X => Below V3.heap.size V3 X) (by kernel_rfl) ?_ (fun hS0 => ?_)
  · exact (Below.refl _ _).drew
  (refine wpAnyW_take (i := 0) (v := ?_) rfl (by kernel_rfl) (by kernel_rfl) (by kernel_rfl) (by kernel_rfl) (fun _ _ _ h => h) (Or.inl ⟨by kernel_rfl, ?_⟩) (by assumption) ?_; rotate_left; focus (intro V9 hS9; go_simp; (try (with_reducible rfl)); done))
  try simp only [Act.put, List.getElem_toArray, List.getElem_cons_zero, List.setIfInBounds_toArray, List.set_cons_succ, List.set_cons_zero]
  (refine wpAnyW_take (i := 1) (v := ?_) rfl (by kernel_rfl) (by kernel_rfl) (by kernel_rfl) (by kernel_rfl) (fun _ _ _ h => h) (Or.inl ⟨by kernel_rfl, ?_⟩) (by assumption) ?_; rotate_left; focus (intro V9 hS9; go_simp; (try (with_reducible rfl)); done))
  try simp only [Act.put, List.getElem_toArray, List.getElem_cons_succ, List.getElem_cons_zero, List.setIfInBounds_toArray, List.set_cons_succ, List.set_cons_zero]
  (refine wpAnyW_take (i := 2) (v := ?_) rfl (by kernel_rfl) (by kernel_rfl) (by kernel_rfl) (by kernel_rfl) (fun _ _ _ h => h) (Or.inl ⟨by kernel_rfl, ?_⟩) (by assumption) ?_; rotate_left; focus (intro V9 hS9; go_simp; (try (with_reducible rfl)); done))
  try simp only [Act.put, List.getElem_toArray, List.getElem_cons_succ, List.getElem_cons_zero, List.setIfInBounds_toArray, List.set_cons_succ, List.set_cons_zero]
  (refine wpAnyW_take (i := 3) (v := ?_) rfl (by kernel_rfl) (by kernel_rfl) (by kernel_rfl) (by kernel_rfl) (fun _ _ _ h => h) (Or.inl ⟨by kernel_rfl, ?_⟩) (by assumption) ?_; rotate_left; focus (intro V9 hS9; have c0 := (hS9.cell HCV.out.2.2.1).trans HCV.out.1; go_simp; (try (with_reducible rfl)); done))
  try simp only [Act.put, List.getElem_toArray, List.getElem_cons_succ, List.getElem_cons_zero, List.setIfInBounds_toArray, List.set_cons_succ, List.set_cons_zero]
  (refine wpAnyW_take (i := 4) (v := ?_) rfl (by kernel_rfl) (by kernel_rfl) (by kernel_rfl) (by kernel_rfl) (fun _ _ _ h => h) (Or.inl ⟨by kernel_rfl, ?_⟩) (by assumption) ?_; rotate_left; focus (intro V9 hS9; go_simp; (try (with_reducible rfl)); done))
  try simp only [Act.put, List.getElem_toArray, List.getElem_cons_succ, List.getElem_cons_zero, List.setIfInBounds_toArray, List.set_cons_succ, List.set_cons_zero]
  (refine wpAnyW_take (i := 5) (v := ?_) rfl (by kernel_rfl) (by kernel_rfl) (by kernel_rfl) (by kernel_rfl) (fun _ _ _ h => h) (Or.inl ⟨by kernel_rfl, ?_⟩) (by assumption) ?_; rotate_left; focus (intro V9 hS9; go_simp; (try (with_reducible rfl)); done))
  try simp only [Act.put, List.getElem_toArray, List.getElem_cons_succ, List.getElem_cons_zero, List.setIfInBounds_toArray, List.set_cons_succ, List.set_cons_zero]
  (refine wpAnyW_take (i := 6) (v := ?_) rfl (by kernel_rfl) (by kernel_rfl) (by kernel_rfl) (by kernel_rfl) (fun _ _ _ h => h) (Or.inl ⟨by kernel_rfl, ?_⟩) (by assumption) ?_; rotate_left; focus (intro V9 hS9; go_simp; (try (with_reducible rfl)); done))
  try simp only [Act.put, List.getElem_toArray, List.getElem_cons_succ, List.getElem_cons_zero, List.setIfInBounds_toArray, List.set_cons_succ, List.set_cons_zero]
  (refine wpAnyW_take (i := 7) (v := ?_) rfl (by kernel_rfl) (by kernel_rfl) (by kernel_rfl) (by kernel_rfl) (fun _ _ _ h => h) (Or.inl ⟨by kernel_rfl, ?_⟩) (by assumption) ?_; rotate_left; focus (intro V9 hS9; have c1 := (hS9.cell HCV.out.2.2.1).trans HCV.out.2.1; go_simp; (try (with_reducible rfl)); done))
  try simp only [Act.put, List.getElem_toArray, List.getElem_cons_succ, List.getElem_cons_zero, List.setIfInBounds_toArray, List.set_cons_succ, List.set_cons_zero]
  (refine wpAnyW_take (i := 8) (v := ?_) rfl (by kernel_rfl) (by kernel_rfl) (by kernel_rfl) (by kernel_rfl) (fun _ _ _ h => h) (Or.inl ⟨by kernel_rfl, ?_⟩) (by assumption) ?_; rotate_left; focus (intro V9 hS9; go_simp; (try (with_reducible rfl)); done))
  try simp only [Act.put, List.getElem_toArray, List.getElem_cons_succ, List.getElem_cons_zero, List.setIfInBounds_toArray, List.set_cons_succ, List.set_cons_zero]
  (refine wpAnyW_take (i := 9) (v := ?_) rfl (by kernel_rfl) (by kernel_rfl) (by kernel_rfl) (by kernel_rfl) (fun _ _ _ h => h) (Or.inl ⟨by kernel_rfl, ?_⟩) (by assumption) ?_; rotate_left; focus (intro V9 hS9; obtain ⟨_, _, _, t0, t1, t2, t3, t4, hlt⟩ := HCV.out; have t0 := (hS9.cell hlt).trans t0; have t1 := (hS9.cell hlt).trans t1; have t2 := (hS9.cell hlt).trans t2; have t3 := (hS9.cell hlt).trans t3; have t4 := (hS9.cell hlt).trans t4; go_simp; (try (with_reducible rfl)); done))
  try simp only [Act.put, List.getElem_toArray, List.getElem_cons_succ, List.getElem_cons_zero, List.setIfInBounds_toArray, List.set_cons_succ, List.set_cons_zero]
  refine wpAnyW_ready (rs := [10]) (by kernel_rfl) (by simp) ?_
  refine AllReadyW.cons rfl (fun K hK => ?_) AllReadyW.nil
  go_simp
  refine hK.out _ _ ((Below.refl _ _).drew.alloc (Nat.le_refl _) _) (fun _ => ?_)
  clear hK K
  try simp only [Act.put, List.getElem_toArray, List.getElem_cons_succ, List.getElem_cons_zero, List.setIfInBounds_toArray, List.set_cons_succ, List.set_cons_zero]
  refine wpAnyW_ready (rs := [11]) (by kernel_rfl) (by simp) ?_
  refine AllReadyW.consE rfl (by kernel_rfl) (fun K hK => ?_) AllReadyW.nil
  go_simp
  refine hK.out _ _ ?_
  clear hK K
  refine wpAnyW_done (by kernel_rfl) ?_ _
  go_upto_region 8 with (fail)
  refine wp_world (fun X => Blk X V3.heap.size 80 (tokC t) ∧ ZI pb A c T fin W s X) ?_ ?_
  · exact ⟨(Blk.new V3 _ (tokC t)), (HI3.out.tok t).keep (below_drewN (Below.refl _ _) 1)⟩
  have HGP := Lib.hid HCV.out.2.2.1
  clear HI3 HCV hS0 q1 q2 hd
  obtain ⟨g6, hg6⟩ : ∃ g6, V3.heap.size = g6 := ⟨_, rfl⟩
  rw [hg6] at HGP ⊢
  clear hg6
  rintro V4 ⟨hT4, hI4⟩
  have x0 : V4.cell? ⟨g6, 0, none⟩ = some (.int .i64 t.kind) := hT4.cell 0
  have x1 : V4.cell? ⟨g6, 1, none⟩ = some (.int .i64 t.int) := hT4.cell 1
  have x2 : V4.cell? ⟨g6, 2, none⟩ = some (.string ⟨t.text.toArray⟩) := hT4.cell 2
  have d1 : (t.kind == 1) = false := by have := HKD.out.1; simpa using this
  have d2 : (t.kind == 2) = false := by have := HKD.out.2.1; simpa using this
  have d3 : (t.kind == 3) = false := by have := HKD.out.2.2; simpa using this
  go_upto_region 18 with (fail)
  refine wp_world (fun X => ZI pb A c T fin W s X) hI4 ?_
  clear hT4 hI4 x0 x1 x2 d1 d2 d3 HTE HAE HGP hi HKD
  rw [← HPT.out]
  clear HPT
  intro V5 hI5
  go_upto_region 44 with (first
    | (go_at_call 21; with_reducible refine (HF0.out _ hI5.p).mono ?_; rintro e Vc0 ⟨rfl, hpc0, hfc0⟩)
    | (go_at_call 21; with_reducible refine (HF1.out _ hpc0).mono ?_; rintro e Vc1 ⟨rfl, hpc1, hfc1⟩)
    | (go_at_call 21; with_reducible refine (HF2.out _ hpc1).mono ?_; rintro e Vc2 ⟨rfl, hpc2, hfc2⟩)
    | (go_at_call 21; with_reducible refine (HF3.out _ hpc2).mono ?_; rintro e Vc3 ⟨rfl, hpc3, hfc3⟩)
    | (go_at_call 21; with_reducible refine (HF4.out _ hpc3).mono ?_; rintro e Vc4 ⟨rfl, hpc4, hfc4⟩)
    | (go_at_call 21; with_reducible refine (HF5.out _ hpc4).mono ?_; rintro e Vc5 ⟨rfl, hpc5, hfc5⟩))
  refine wp_world (fun X => ZI pb A c T fin W (nextP s) X) ((((((hI5.act hpc0 hfc0).act hpc1 hfc1).act hpc2 hfc2).act hpc3 hfc3).act hpc4 hfc4).act hpc5 hfc5) ?_
  clear hI5 hpc0 hfc0 HF0 hpc1 hfc1 HF1 hpc2 hfc2 HF2 hpc3 hfc3 HF3 hpc4 hfc4 HF4 hpc5 hfc5 HF5
  intro V6 hI
  go_upto_region 45 with (fail)
  have hI8 := hI.make (leaf_ok 15 0 [] pl)
  obtain ⟨g, hg⟩ : ∃ g, V6.heap.size = g := ⟨_, rfl⟩
  rw [hg] at hI8 ⊢
  refine wp_world (fun V => BinI pb A c T fin W g ⟨.mk 15 0 [] pl [] [] [], none, 0, none, 0, none, 0⟩ (nextP s) V) hI8 ?_
  clear hI8 hI hg
  intro V8 hI8
  go_upto_region 46 with (go_at_call 38; refine (HIA.out _ hI8.p).mono ?_; rintro e V7 ⟨rfl, hb7⟩)
  refine wp_world (fun V => BinI pb A c T fin W g ⟨.mk 15 0 [] pl [] [] [], none, 0, none, 0, none, 0⟩ (nextP s) V) (hI8.keep hb7) ?_
  clear hI8 hb7 HIA
  intro V8 hI8
  go_upto_region 47 with (go_at_call 79; refine (HS2.out _ hI8.p).mono ?_; rintro e V7 ⟨B, d, rfl, hrd, hp7, hf7⟩; have hI9 := hI8.act hp7 hf7; have hof := hI8.offC hrd; have fz := hI9.a.frozen 5; have c5 := hI9.a.cell 5)
  have hJ := hI9.put (y := ⟨.mk 15 0 [] pl [] q2.1 [], none, 0, B, d, none, 0⟩) ⟨hI9.ok.kids, hof, hI9.ok.body⟩ (setC_fr V7 g 5 (.slice B q2.1.length d)) (hI9.a.set_ 5 (.slice B q2.1.length d))
  refine wp_world (fun V => BinI pb A c T fin W g ⟨.mk 15 0 [] pl [] q2.1 [], none, 0, B, d, none, 0⟩ q2.2 V) hJ ?_
  clear hJ hI9 hof fz c5 hI8 hp7 hf7 hrd HS2
  intro V8 hI8
  go_upto_region 48 with (go_at_call 21; refine (HTA.out _ hI8.p).mono ?_; rintro e V7 ⟨rfl, hp7, hf7⟩)
  refine wp_world (fun V => BinI pb A c T fin W g ⟨.mk 15 0 [] pl [] q2.1 [], none, 0, B, d, none, 0⟩ (nextP q2.2) V) (hI8.act hp7 hf7) ?_
  clear hI8 hp7 hf7 HTA
  intro V8 hI8
  go_upto_region 49 with (go_at_call 10; refine (HS3.out _ hI8.p).mono ?_; rintro e V7 ⟨x, hx, rfl, hok, hp7, hf7⟩; replace hx := Lib.hid hx; have hI9 := hI8.act hp7 hf7; have fz := hI9.a.frozen 4; have c5 := hI9.a.cell 4; have hlt7 := hI9.a.lt)
  have hgl := hI8.a.lt
  have hgg := hI8.g
  have hx3 : x.Ok (fun k => k ≤ W.heap.size ∨ k = g) V7 := hok.move (.sub_ fun k _ hk => by show k < V8.heap.size; rcases hk with hk | hk <;> omega)
  have hS := setC_fr V7 g 4 (.slice (some ⟨V7.heap.size, 0, none⟩) 1 1)
  have hsz := size_setCell V7 ⟨g, 4, none⟩ (.slice (some ⟨V7.heap.size, 0, none⟩) 1 1)
  have hx4 : x.Ok (fun k => k ≤ W.heap.size ∨ k = g) (V7.setCell ⟨g, 4, none⟩ (.slice (some ⟨V7.heap.size, 0, none⟩) 1 1)) := hx3.move (.of_fr hS (fun k hk => .inr hk) fun _ _ h => h)
  have hrd4 := one_ok hx4 (by show ¬ (_ ≤ W.heap.size ∨ _ = g); rw [hsz]; omega) (cs := (enL [x]).toArray) rfl
  have hba := below_alloc (V7.setCell ⟨g, 4, none⟩ (.slice (some ⟨V7.heap.size, 0, none⟩) 1 1)) (.cells (enL [x]).toArray 26)
  rw [hsz] at hrd4
  have hFA : Fr (fun k => k = g) V7 ((V7.setCell ⟨g, 4, none⟩ (.slice (some ⟨V7.heap.size, 0, none⟩) 1 1)).alloc (.cells (enL [x]).toArray 26)) := hS.same (Fr.of_below hba _)
  have hmv : Mv (fun k => k ≤ W.heap.size ∨ k = g) V7 (fun k => k ≤ W.heap.size ∨ k = g) ((V7.setCell ⟨g, 4, none⟩ (.slice (some ⟨V7.heap.size, 0, none⟩) 1 1)).alloc (.cells (enL [x]).toArray 26)) := .of_fr hFA (fun k hk => .inr hk) fun _ _ h => h
  have hJ : BinI pb A c T fin W g ⟨.mk 15 0 [] pl [x.t] q2.1 [], some ⟨V7.heap.size, 0, none⟩, 1, B, d, none, 0⟩ q3.2 ((V7.setCell ⟨g, 4, none⟩ (.slice (some ⟨V7.heap.size, 0, none⟩) 1 1)).alloc (.cells (enL [x]).toArray 26)) :=
    ⟨hI9.p.far hFA (by have := hI9.pb; have := hI9.g; show ¬ pb = g; omega) (fun b o e => by have := hI9.p.apart b o e; have := hI9.pb; have := hI9.g; show ¬ b = g; omega), hI9.fr.trans hFA (fun k hk e => by have h9 : k = g := e; have := hI9.g; omega), hFA.blk hI9.res (by have := hI9.g; show ¬ W.heap.size = g; omega), (hI9.a.set_ 4 _).alloc _, ⟨hrd4, hI9.ok.clauses.move hmv, hI9.ok.body.move hmv⟩, hI9.g, hI9.pb⟩
  obtain ⟨gk, hgk⟩ : ∃ gk, V7.heap.size = gk := ⟨_, rfl⟩
  rw [hgk] at hJ ⊢
  refine wp_world (fun V => BinI pb A c T fin W g ⟨.mk 15 0 [] pl [x.t] q2.1 [], some ⟨gk, 0, none⟩, 1, B, d, none, 0⟩ q3.2 V) hJ ?_
  clear hJ hmv hFA hba hrd4 hx4 hsz hS hx3 hgl hgg hlt7 fz c5 hI9 hI8 hok hp7 hf7 hgk HS3
  intro V8 hI8
  go_upto_region 50 with (go_at_call 26; refine (HMO.out _ hI8.p).mono ?_; rintro e V7 ⟨rfl, hp7, hf7⟩)
  refine wp_world (fun V => BinI pb A c T fin W g ⟨.mk 15 0 [] pl [x.t] q2.1 [], some ⟨gk, 0, none⟩, 1, B, d, none, 0⟩ (mustP T fin sArrow q3.2) V) (hI8.act hp7 hf7) ?_
  clear hI8 hp7 hf7 HMO
  intro V8 hI8
  go_upto_region 51 with (go_at_call 71; refine (HS4.out _ hI8.p).mono ?_; rintro e V7 ⟨C, ec, rfl, hrc, hp7, hf7⟩; have hI9 := hI8.act hp7 hf7; have hof := hI8.off hrc; have fz := hI9.a.frozen 6; have c5 := hI9.a.cell 6)
  have hJ := hI9.put (y := ⟨.mk 15 0 [] pl [x.t] q2.1 q4.1, some ⟨gk, 0, none⟩, 1, B, d, C, ec⟩) ⟨hI9.ok.kids, hI9.ok.clauses, hof⟩ (setC_fr V7 g 6 (.slice C q4.1.length ec)) (hI9.a.set_ 6 (.slice C q4.1.length ec))
  refine wp_world (fun V => BinI pb A c T fin W g ⟨.mk 15 0 [] pl [x.t] q2.1 q4.1, some ⟨gk, 0, none⟩, 1, B, d, C, ec⟩ q4.2 V) hJ ?_
  clear hJ hI9 hof fz c5 hI8 hp7 hf7 hrc HS4
  intro V8 hI8
  go_upto_region 52 with (go_at_call 26; refine (HME.out _ hI8.p).mono ?_; rintro e V7 ⟨rfl, hp7, hf7⟩)
  refine wp_world (fun V => BinI pb A c T fin W g ⟨.mk 15 0 [] pl [x.t] q2.1 q4.1, some ⟨gk, 0, none⟩, 1, B, d, C, ec⟩ (mustP T fin sEnd q4.2) V) (hI8.act hp7 hf7) ?_
  clear hI8 hp7 hf7 HME
  intro V9 hI
  obtain ⟨y, hy⟩ : ∃ y : EN, (⟨.mk 15 0 [] pl [x.t] q2.1 q4.1, some ⟨gk, 0, none⟩, 1, B, d, C, ec⟩ : EN) = y := ⟨_, rfl⟩
  have HY9 : Hid (y.t = r.1 ∧ (mustP T fin sEnd q4.2) = r.2) := by rw [← hy]; exact by rw [← HRE.out, ← hx.out]; exact ⟨rfl, rfl⟩
  rw [hy] at hI
  clear hy
  obtain ⟨a0, a1, a2, a3, a4, a5, a6⟩ := hI.a.cells
  obtain ⟨z0, z1, z2, z3, z4, z5, z6, f0, f1, f2, f3, f4, f5, f6⟩ := zbx_facts hI.res
  go_wp2
  refine q_bp_world (fun V => NBx V W.heap.size y ∧ Fr (fun k => k = W.heap.size) V9 V) ⟨put7_blk hI.res _ _ _ _ _ _ _, put7_fr _ _ _ _ _ _ _ _ _⟩ ?_
  rintro V10 ⟨hB6, hF6⟩
  obtain ⟨x0, x1, x2, x3, x4, x5, x6⟩ := hB6.cells
  obtain ⟨e1, e2, e3⟩ := hI.fin_ hF6
  exact bodyPost_ret (v := .agg #[.int .i64 y.t.kind, .int .i64 y.t.int, .string ⟨y.t.name.toArray⟩, .int .i64 y.t.at_, .slice y.A y.t.kids.length y.c, .slice y.B y.t.clauses.length y.d, .slice y.C y.t.body.length y.e]) (by simp [results, Try.results77, go_sem, x0, x1, x2, x3, x4, x5, x6]) rfl ⟨y, HY9.out.1, rfl, e1, by rw [← HY9.out.2]; exact e2, e3⟩

set_option maxRecDepth 100000 in
set_option maxHeartbeats 8000000 in
theorem prim_recv_arms {n : Nat} {deep : Nat} {s : PS} {r : ND × PS} {t : Tok} (HA : ArmsOk pb A c T fin n) {q2 : List CD × PS} (hq2 : (lang T fin n).arms (deep + 1) [] (nextP s) = some q2) (hdp : deep + (n + 1) ≤ deepB) (he : s.e = 0) (ht : T[s.i]? = some t) (hk : t.kind ≠ 1 ∧ t.kind ≠ 2 ∧ t.kind ≠ 3) (hb0 : isP T sOpen s = false) (hb1 : isP T sLc s = false) (hb2 : isP T sLb s = false) (hb3 : isP T sFun s = false) (hb4 : isP T sCase s = false) (hb5 : isP T sReceive s = true) (hai : isP T sAfter (nextP s) = false) (haf : isP T sAfter q2.2 = false) (hr : primW T fin (lang T fin n) deep s = some r) (hp : PAt pb A c T fin s W) :
    Calls Try.prog 77 #[.pointer (some ⟨pb, 0, none⟩), .int .i64 (deep : Int)] W (NEnd pb A c T fin W r) := by
  unfold primW at hr
  rw [hb0, if_neg (by simp), hb1, if_neg (by simp), hb2, if_neg (by simp), hb3, if_neg (by simp), hb4, if_neg (by simp), hb5, if_pos rfl] at hr
  have hdq : deep + (n + 1) ≤ 4611686018427387904 := hdp
  have q9 : IntKind.i64.wrap ((deep : Int) + 1) = ((deep + 1 : Nat) : Int) := by rw [IntKind.wrap_i64]; omega
  obtain ⟨pl, hpl⟩ : ∃ pl, placeP T fin s = pl := ⟨_, rfl⟩
  have hpt : pl = ((t.at_ : Nat) : Int) := by rw [← hpl]; unfold placeP; rw [ht]
  try rw [hpl] at hr
  rw [hai, if_neg (by simp), hq2] at hr
  simp only [Option.bind_some] at hr
  unfold recvB at hr
  rw [haf, if_neg (by simp)] at hr
  have HS2 : Hid (∀ V, PAt pb A c T fin (nextP s) V → Calls Try.prog 79 #[.pointer (some ⟨pb, 0, none⟩), .int .i64 (((deep + 1 : Nat) : Nat) : Int)] V (KEnd pb A c T fin V q2)) := fun V hV => HA (deep + 1) _ V q2 (by omega) hq2 hV
  have HRE := Lib.hid (Option.some.inj hr)
  have HME : Hid (∀ V, PAt pb A c T fin q2.2 V → Calls Try.prog 26 #[.pointer (some ⟨pb, 0, none⟩), .string ⟨#[101, 110, 100]⟩] V fun r w' => r = .returned (.tuple #[]) ∧ PAt pb A c T fin (mustP T fin sEnd q2.2) w' ∧ PFr pb V w') := fun V hV => must_any hV sEnd
  have HTA : Hid (∀ V, PAt pb A c T fin q2.2 V → Calls Try.prog 21 #[.pointer (some ⟨pb, 0, none⟩), .string ⟨#[97, 102, 116, 101, 114]⟩] V fun r w' => r = .returned (.bool false) ∧ PAt pb A c T fin q2.2 w' ∧ PFr pb V w') := fun V hV => by
    have := take_any hV sAfter
    rw [haf, if_neg (by simp)] at this
    exact this
  have HIA : Hid (∀ V, PAt pb A c T fin (nextP s) V → Calls Try.prog 38 #[.pointer (some ⟨pb, 0, none⟩), .string ⟨#[97, 102, 116, 101, 114]⟩] V fun r w' => r = .returned (.bool false) ∧ Below V.heap.size V w') := fun V hV => by
    have := is_any hV sAfter
    rw [hai] at this
    exact this
  clear haf hai hq2 HA
  have HF0 : Hid (∀ V, PAt pb A c T fin s V → Calls Try.prog 21 #[.pointer (some ⟨pb, 0, none⟩), .string ⟨#[40]⟩] V fun r w' => r = .returned (.bool false) ∧ PAt pb A c T fin s w' ∧ PFr pb V w') := fun V hV => by
    have := take_any hV sOpen
    rw [hb0, if_neg (by simp)] at this
    exact this
  have HF1 : Hid (∀ V, PAt pb A c T fin s V → Calls Try.prog 21 #[.pointer (some ⟨pb, 0, none⟩), .string ⟨#[123]⟩] V fun r w' => r = .returned (.bool false) ∧ PAt pb A c T fin s w' ∧ PFr pb V w') := fun V hV => by
    have := take_any hV sLc
    rw [hb1, if_neg (by simp)] at this
    exact this
  have HF2 : Hid (∀ V, PAt pb A c T fin s V → Calls Try.prog 21 #[.pointer (some ⟨pb, 0, none⟩), .string ⟨#[91]⟩] V fun r w' => r = .returned (.bool false) ∧ PAt pb A c T fin s w' ∧ PFr pb V w') := fun V hV => by
    have := take_any hV sLb
    rw [hb2, if_neg (by simp)] at this
    exact this
  have HF3 : Hid (∀ V, PAt pb A c T fin s V → Calls Try.prog 21 #[.pointer (some ⟨pb, 0, none⟩), .string ⟨#[102, 117, 110]⟩] V fun r w' => r = .returned (.bool false) ∧ PAt pb A c T fin s w' ∧ PFr pb V w') := fun V hV => by
    have := take_any hV sFun
    rw [hb3, if_neg (by simp)] at this
    exact this
  have HF4 : Hid (∀ V, PAt pb A c T fin s V → Calls Try.prog 21 #[.pointer (some ⟨pb, 0, none⟩), .string ⟨#[99, 97, 115, 101]⟩] V fun r w' => r = .returned (.bool false) ∧ PAt pb A c T fin s w' ∧ PFr pb V w') := fun V hV => by
    have := take_any hV sCase
    rw [hb4, if_neg (by simp)] at this
    exact this
  have HF5 : Hid (∀ V, PAt pb A c T fin s V → Calls Try.prog 21 #[.pointer (some ⟨pb, 0, none⟩), .string ⟨#[114, 101, 99, 101, 105, 118, 101]⟩] V fun r w' => r = .returned (.bool true) ∧ PAt pb A c T fin (nextP s) w' ∧ PFr pb V w') := fun V hV => by
    have := take_any hV sReceive
    rw [hb5, if_pos rfl] at this
    exact this
  clear hb0 hb1 hb2 hb3 hb4 hb5
  have HKD := Lib.hid hk
  clear hk
  have HPT := Lib.hid hpt
  clear hpt hpl
  have HST := Lib.hid (ZI.start hp)
  have hlen := hp.len
  have HPL : Hid (∀ V, PAt pb A c T fin s V → Calls Try.prog 20 #[.pointer (some ⟨pb, 0, none⟩)] V fun e w' => e = .returned (.int .i64 ((t.at_ : Nat) : Int)) ∧ Below V.heap.size V w') := fun V hV => by
    have h9 : placeP T fin s = ((t.at_ : Nat) : Int) := by unfold placeP; rw [ht]
    rw [← h9]
    exact place_any hV
  obtain ⟨hi, hte⟩ := List.getElem?_eq_some_iff.1 ht
  have HTE := Lib.hid hte
  have hd : decide (T.length ≤ s.i) = false := by simpa using hi
  have HE := Lib.hid he
  clear hr he hp ht hte
  go_enter Try.func77, Try.ntmps77
  go_upto_region 1 with (fail)
  refine wp_world (fun V => ZI pb A c T fin W s V) HST.out ?_
  clear HST
  intro V0 hI0
  obtain ⟨c0, c1, c2, c3, c4⟩ := hI0.p.cells
  rw [HE.out] at c3
  go_upto_region 4 with (go_at_call 20; refine (HPL.out _ hI0.p).mono ?_; rintro e V1 ⟨rfl, hb1⟩)
  refine wp_world (fun V => ZI pb A c T fin W s V) (hI0.keep hb1) ?_
  clear hI0 hb1 c0 c1 c2 c3 c4 HPL
  intro V2 hI2
  obtain ⟨c0, c1, c2, c3, c4⟩ := hI2.p.cells
  have HI2 := Lib.hid hI2
  clear hI2
  go_quiet (fail)
  go_wp2
  refine wp_world (fun V => ZI pb A c T fin W s V) (HI2.out.keep (below_drewN (Below.refl _ _) _)) ?_
  clear HI2 c0 c1 c2 c3 c4
  intro V3 hI3
  obtain ⟨c0, c1, c2, c3, c4⟩ := hI3.p.cells
  have q1 : (0 : Int) ≤ (s.i : Int) := by omega
  have q2 : (s.i : Int) < (T.length : Int) := by omega
  have htk := hI3.p.toks.at_ hi
  rw [HTE.out] at htk
  obtain ⟨b, o, hAe, hlt, t0, t1, t2, t3, t4⟩ := htk
  rw [hAe] at c0
  have HCV : Hid (V3.cell? ⟨pb, 0, none⟩ = some (.slice (some ⟨b, o, none⟩) T.length c) ∧ V3.cell? ⟨pb, 1, none⟩ = some (.int .i64 (s.i : Int)) ∧ pb < V3.heap.size ∧ V3.cell? ⟨b, o + s.i * 5, none⟩ = some (.int .i64 t.kind) ∧ V3.cell? ⟨b, o + s.i * 5 + 1, none⟩ = some (.int .i64 t.int) ∧ V3.cell? ⟨b, o + s.i * 5 + 2, none⟩ = some (.string ⟨t.text.toArray⟩) ∧ V3.cell? ⟨b, o + s.i * 5 + 3, none⟩ = some (.int .i64 ((t.at_ : Nat) : Int)) ∧ V3.cell? ⟨b, o + s.i * 5 + 4, none⟩ = some (.int .i64 ((t.fin : Nat) : Int)) ∧ b < V3.heap.size) := ⟨c0, c1, hI3.p.obj.lt, t0, t1, t2, t3, t4, hlt⟩
  have HI3 := Lib.hid hI3
  have HAE := Lib.hid hAe
  clear hI3 c0 c1 c2 c3 c4 t0 t1 t2 t3 t4 hlt hAe
  refine wp_region_W 11 (fun X => Below V3.heap.size V3 X) (by kernel_rfl) ?_ (fun hS0 => ?_)
  · exact (Below.refl _ _).drew
  (refine wpAnyW_take (i := 0) (v := ?_) rfl (by kernel_rfl) (by kernel_rfl) (by kernel_rfl) (by kernel_rfl) (fun _ _ _ h => h) (Or.inl ⟨by kernel_rfl, ?_⟩) (by assumption) ?_; rotate_left; focus (intro V9 hS9; go_simp; (try (with_reducible rfl)); done))
  try simp only [Act.put, List.getElem_toArray, List.getElem_cons_zero, List.setIfInBounds_toArray, List.set_cons_succ, List.set_cons_zero]
  (refine wpAnyW_take (i := 1) (v := ?_) rfl (by kernel_rfl) (by kernel_rfl) (by kernel_rfl) (by kernel_rfl) (fun _ _ _ h => h) (Or.inl ⟨by kernel_rfl, ?_⟩) (by assumption) ?_; rotate_left; focus (intro V9 hS9; go_simp; (try (with_reducible rfl)); done))
  try simp only [Act.put, List.getElem_toArray, List.getElem_cons_succ, List.getElem_cons_zero, List.setIfInBounds_toArray, List.set_cons_succ, List.set_cons_zero]
  (refine wpAnyW_take (i := 2) (v := ?_) rfl (by kernel_rfl) (by kernel_rfl) (by kernel_rfl) (by kernel_rfl) (fun _ _ _ h => h) (Or.inl ⟨by kernel_rfl, ?_⟩) (by assumption) ?_; rotate_left; focus (intro V9 hS9; go_simp; (try (with_reducible rfl)); done))
  try simp only [Act.put, List.getElem_toArray, List.getElem_cons_succ, List.getElem_cons_zero, List.setIfInBounds_toArray, List.set_cons_succ, List.set_cons_zero]
  (refine wpAnyW_take (i := 3) (v := ?_) rfl (by kernel_rfl) (by kernel_rfl) (by kernel_rfl) (by kernel_rfl) (fun _ _ _ h => h) (Or.inl ⟨by kernel_rfl, ?_⟩) (by assumption) ?_; rotate_left; focus (intro V9 hS9; have c0 := (hS9.cell HCV.out.2.2.1).trans HCV.out.1; go_simp; (try (with_reducible rfl)); done))
  try simp only [Act.put, List.getElem_toArray, List.getElem_cons_succ, List.getElem_cons_zero, List.setIfInBounds_toArray, List.set_cons_succ, List.set_cons_zero]
  (refine wpAnyW_take (i := 4) (v := ?_) rfl (by kernel_rfl) (by kernel_rfl) (by kernel_rfl) (by kernel_rfl) (fun _ _ _ h => h) (Or.inl ⟨by kernel_rfl, ?_⟩) (by assumption) ?_; rotate_left; focus (intro V9 hS9; go_simp; (try (with_reducible rfl)); done))
  try simp only [Act.put, List.getElem_toArray, List.getElem_cons_succ, List.getElem_cons_zero, List.setIfInBounds_toArray, List.set_cons_succ, List.set_cons_zero]
  (refine wpAnyW_take (i := 5) (v := ?_) rfl (by kernel_rfl) (by kernel_rfl) (by kernel_rfl) (by kernel_rfl) (fun _ _ _ h => h) (Or.inl ⟨by kernel_rfl, ?_⟩) (by assumption) ?_; rotate_left; focus (intro V9 hS9; go_simp; (try (with_reducible rfl)); done))
  try simp only [Act.put, List.getElem_toArray, List.getElem_cons_succ, List.getElem_cons_zero, List.setIfInBounds_toArray, List.set_cons_succ, List.set_cons_zero]
  (refine wpAnyW_take (i := 6) (v := ?_) rfl (by kernel_rfl) (by kernel_rfl) (by kernel_rfl) (by kernel_rfl) (fun _ _ _ h => h) (Or.inl ⟨by kernel_rfl, ?_⟩) (by assumption) ?_; rotate_left; focus (intro V9 hS9; go_simp; (try (with_reducible rfl)); done))
  try simp only [Act.put, List.getElem_toArray, List.getElem_cons_succ, List.getElem_cons_zero, List.setIfInBounds_toArray, List.set_cons_succ, List.set_cons_zero]
  (refine wpAnyW_take (i := 7) (v := ?_) rfl (by kernel_rfl) (by kernel_rfl) (by kernel_rfl) (by kernel_rfl) (fun _ _ _ h => h) (Or.inl ⟨by kernel_rfl, ?_⟩) (by assumption) ?_; rotate_left; focus (intro V9 hS9; have c1 := (hS9.cell HCV.out.2.2.1).trans HCV.out.2.1; go_simp; (try (with_reducible rfl)); done))
  try simp only [Act.put, List.getElem_toArray, List.getElem_cons_succ, List.getElem_cons_zero, List.setIfInBounds_toArray, List.set_cons_succ, List.set_cons_zero]
  (refine wpAnyW_take (i := 8) (v := ?_) rfl (by kernel_rfl) (by kernel_rfl) (by kernel_rfl) (by kernel_rfl) (fun _ _ _ h => h) (Or.inl ⟨by kernel_rfl, ?_⟩) (by assumption) ?_; rotate_left; focus (intro V9 hS9; go_simp; (try (with_reducible rfl)); done))
  try simp only [Act.put, List.getElem_toArray, List.getElem_cons_succ, List.getElem_cons_zero, List.setIfInBounds_toArray, List.set_cons_succ, List.set_cons_zero]
  (refine wpAnyW_take (i := 9) (v := ?_) rfl (by kernel_rfl) (by kernel_rfl) (by kernel_rfl) (by kernel_rfl) (fun _ _ _ h => h) (Or.inl ⟨by kernel_rfl, ?_⟩) (by assumption) ?_; rotate_left; focus (intro V9 hS9; obtain ⟨_, _, _, t0, t1, t2, t3, t4, hlt⟩ := HCV.out; have t0 := (hS9.cell hlt).trans t0; have t1 := (hS9.cell hlt).trans t1; have t2 := (hS9.cell hlt).trans t2; have t3 := (hS9.cell hlt).trans t3; have t4 := (hS9.cell hlt).trans t4; go_simp; (try (with_reducible rfl)); done))
  try simp only [Act.put, List.getElem_toArray, List.getElem_cons_succ, List.getElem_cons_zero, List.setIfInBounds_toArray, List.set_cons_succ, List.set_cons_zero]
  refine wpAnyW_ready (rs := [10]) (by kernel_rfl) (by simp) ?_
  refine AllReadyW.cons rfl (fun K hK => ?_) AllReadyW.nil
  go_simp
  refine hK.out _ _ ((Below.refl _ _).drew.alloc (Nat.le_refl _) _) (fun _ => ?_)
  clear hK K
  try simp only [Act.put, List.getElem_toArray, List.getElem_cons_succ, List.getElem_cons_zero, List.setIfInBounds_toArray, List.set_cons_succ, List.set_cons_zero]
  refine wpAnyW_ready (rs := [11]) (by kernel_rfl) (by simp) ?_
  refine AllReadyW.consE rfl (by kernel_rfl) (fun K hK => ?_) AllReadyW.nil
  go_simp
  refine hK.out _ _ ?_
  clear hK K
  refine wpAnyW_done (by kernel_rfl) ?_ _
  go_upto_region 8 with (fail)
  refine wp_world (fun X => Blk X V3.heap.size 80 (tokC t) ∧ ZI pb A c T fin W s X) ?_ ?_
  · exact ⟨(Blk.new V3 _ (tokC t)), (HI3.out.tok t).keep (below_drewN (Below.refl _ _) 1)⟩
  have HGP := Lib.hid HCV.out.2.2.1
  clear HI3 HCV hS0 q1 q2 hd
  obtain ⟨g6, hg6⟩ : ∃ g6, V3.heap.size = g6 := ⟨_, rfl⟩
  rw [hg6] at HGP ⊢
  clear hg6
  rintro V4 ⟨hT4, hI4⟩
  have x0 : V4.cell? ⟨g6, 0, none⟩ = some (.int .i64 t.kind) := hT4.cell 0
  have x1 : V4.cell? ⟨g6, 1, none⟩ = some (.int .i64 t.int) := hT4.cell 1
  have x2 : V4.cell? ⟨g6, 2, none⟩ = some (.string ⟨t.text.toArray⟩) := hT4.cell 2
  have d1 : (t.kind == 1) = false := by have := HKD.out.1; simpa using this
  have d2 : (t.kind == 2) = false := by have := HKD.out.2.1; simpa using this
  have d3 : (t.kind == 3) = false := by have := HKD.out.2.2; simpa using this
  go_upto_region 18 with (fail)
  refine wp_world (fun X => ZI pb A c T fin W s X) hI4 ?_
  clear hT4 hI4 x0 x1 x2 d1 d2 d3 HTE HAE HGP hi HKD
  rw [← HPT.out]
  clear HPT
  intro V5 hI5
  go_upto_region 44 with (first
    | (go_at_call 21; with_reducible refine (HF0.out _ hI5.p).mono ?_; rintro e Vc0 ⟨rfl, hpc0, hfc0⟩)
    | (go_at_call 21; with_reducible refine (HF1.out _ hpc0).mono ?_; rintro e Vc1 ⟨rfl, hpc1, hfc1⟩)
    | (go_at_call 21; with_reducible refine (HF2.out _ hpc1).mono ?_; rintro e Vc2 ⟨rfl, hpc2, hfc2⟩)
    | (go_at_call 21; with_reducible refine (HF3.out _ hpc2).mono ?_; rintro e Vc3 ⟨rfl, hpc3, hfc3⟩)
    | (go_at_call 21; with_reducible refine (HF4.out _ hpc3).mono ?_; rintro e Vc4 ⟨rfl, hpc4, hfc4⟩)
    | (go_at_call 21; with_reducible refine (HF5.out _ hpc4).mono ?_; rintro e Vc5 ⟨rfl, hpc5, hfc5⟩))
  refine wp_world (fun X => ZI pb A c T fin W (nextP s) X) ((((((hI5.act hpc0 hfc0).act hpc1 hfc1).act hpc2 hfc2).act hpc3 hfc3).act hpc4 hfc4).act hpc5 hfc5) ?_
  clear hI5 hpc0 hfc0 HF0 hpc1 hfc1 HF1 hpc2 hfc2 HF2 hpc3 hfc3 HF3 hpc4 hfc4 HF4 hpc5 hfc5 HF5
  intro V6 hI
  go_upto_region 45 with (fail)
  have hI8 := hI.make (leaf_ok 15 0 [] pl)
  obtain ⟨g, hg⟩ : ∃ g, V6.heap.size = g := ⟨_, rfl⟩
  rw [hg] at hI8 ⊢
  refine wp_world (fun V => BinI pb A c T fin W g ⟨.mk 15 0 [] pl [] [] [], none, 0, none, 0, none, 0⟩ (nextP s) V) hI8 ?_
  clear hI8 hI hg
  intro V8 hI8
  go_upto_region 46 with (go_at_call 38; refine (HIA.out _ hI8.p).mono ?_; rintro e V7 ⟨rfl, hb7⟩)
  refine wp_world (fun V => BinI pb A c T fin W g ⟨.mk 15 0 [] pl [] [] [], none, 0, none, 0, none, 0⟩ (nextP s) V) (hI8.keep hb7) ?_
  clear hI8 hb7 HIA
  intro V8 hI8
  go_upto_region 47 with (go_at_call 79; refine (HS2.out _ hI8.p).mono ?_; rintro e V7 ⟨B, d, rfl, hrd, hp7, hf7⟩; have hI9 := hI8.act hp7 hf7; have hof := hI8.offC hrd; have fz := hI9.a.frozen 5; have c5 := hI9.a.cell 5)
  have hJ := hI9.put (y := ⟨.mk 15 0 [] pl [] q2.1 [], none, 0, B, d, none, 0⟩) ⟨hI9.ok.kids, hof, hI9.ok.body⟩ (setC_fr V7 g 5 (.slice B q2.1.length d)) (hI9.a.set_ 5 (.slice B q2.1.length d))
  refine wp_world (fun V => BinI pb A c T fin W g ⟨.mk 15 0 [] pl [] q2.1 [], none, 0, B, d, none, 0⟩ q2.2 V) hJ ?_
  clear hJ hI9 hof fz c5 hI8 hp7 hf7 hrd HS2
  intro V8 hI8
  go_upto_region 52 with (first
    | (go_at_call 21; refine (HTA.out _ hI8.p).mono ?_; rintro e V7 ⟨rfl, hp6, hf6⟩; have hI7 := hI8.act hp6 hf6)
    | (go_at_call 26; refine (HME.out _ hI7.p).mono ?_; rintro e V7 ⟨rfl, hp7, hf7⟩))
  refine wp_world (fun V => BinI pb A c T fin W g ⟨.mk 15 0 [] pl [] q2.1 [], none, 0, B, d, none, 0⟩ (mustP T fin sEnd q2.2) V) (hI7.act hp7 hf7) ?_
  clear hI8 hp6 hf6 hI7 hp7 hf7 HME HTA
  intro V9 hI
  obtain ⟨y, hy⟩ : ∃ y : EN, (⟨.mk 15 0 [] pl [] q2.1 [], none, 0, B, d, none, 0⟩ : EN) = y := ⟨_, rfl⟩
  have HY9 : Hid (y.t = r.1 ∧ (mustP T fin sEnd q2.2) = r.2) := by rw [← hy]; exact by rw [← HRE.out]; exact ⟨rfl, rfl⟩
  rw [hy] at hI
  clear hy
  obtain ⟨a0, a1, a2, a3, a4, a5, a6⟩ := hI.a.cells
  obtain ⟨z0, z1, z2, z3, z4, z5, z6, f0, f1, f2, f3, f4, f5, f6⟩ := zbx_facts hI.res
  go_wp2
  refine q_bp_world (fun V => NBx V W.heap.size y ∧ Fr (fun k => k = W.heap.size) V9 V) ⟨put7_blk hI.res _ _ _ _ _ _ _, put7_fr _ _ _ _ _ _ _ _ _⟩ ?_
  rintro V10 ⟨hB6, hF6⟩
  obtain ⟨x0, x1, x2, x3, x4, x5, x6⟩ := hB6.cells
  obtain ⟨e1, e2, e3⟩ := hI.fin_ hF6
  exact bodyPost_ret (v := .agg #[.int .i64 y.t.kind, .int .i64 y.t.int, .string ⟨y.t.name.toArray⟩, .int .i64 y.t.at_, .slice y.A y.t.kids.length y.c, .slice y.B y.t.clauses.length y.d, .slice y.C y.t.body.length y.e]) (by simp [results, Try.results77, go_sem, x0, x1, x2, x3, x4, x5, x6]) rfl ⟨y, HY9.out.1, rfl, e1, by rw [← HY9.out.2]; exact e2, e3⟩

end
end
end Go.Proofs.Ythhindnjnijglaa
