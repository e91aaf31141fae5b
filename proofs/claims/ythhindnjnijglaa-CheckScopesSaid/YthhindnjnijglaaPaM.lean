/- Layer 11: the walks of rest, arms. Layer 11: the walk of arms. -/
import Derived.Test.YthhindnjnijglaaPaK
namespace Go.Proofs.Ythhindnjnijglaa
section
open Go.RowKit
set_option linter.unusedVariables false
/-- A list's cell that is being made: its box, its row of kids. -/
structure RstI (pb : Nat) (A : Option Addr) (c : Nat) (T : List Tok) (fin : Nat) (W : World) (g : Nat) (at_ : Int) (xs : List EN) (v : Value) (s : PS) (V : World) : Prop where
  zi : ZI pb A c T fin W s V
  n : Blk V g 26 #[.int .i64 6, .int .i64 0, .string ⟨#[]⟩, .int .i64 at_, v, .slice none 0 0, .slice none 0 0]
  row : Rw eltN (W.heap.size + 1) (fun k => k ≤ W.heap.size ∨ k = g) xs v V
  g : W.heap.size < g
section
variable {pb : Nat} {A : Option Addr} {c : Nat} {T : List Tok} {fin : Nat} {W : World} {g : Nat} {at_ : Int} {xs : List EN} {v v' : Value} {s s' : PS} {V V' : World}
theorem Rw.more {α : Type} {E : Elt α} {B : Nat} {S S' : Nat → Prop} {xs : List α} {v : Value} {V V' : World} (h : Rw E B S xs v V) (hb : Below V.heap.size V V') (hS : ∀ k, S' k → S k ∨ V.heap.size ≤ k ∧ k < V'.heap.size) : Rw E B S' xs v V' :=
  ⟨(h.below hb).own, fun x hx => E.move (h.each x hx) (.of_below hb fun k hlt hk => by
    rcases hk with hk | hk
    · rcases hS k hk with h1 | h1
      · exact .inl h1
      · omega
    · exact .inr hk), fun k hk hs => by
    have := (h.own.lt k hk).2
    rcases hS k hs with h1 | h1
    · exact h.apart k hk h1
    · omega, fun k hk => by
    rcases hS k hk with h1 | h1
    · exact Nat.lt_of_lt_of_le (h.lt k h1) hb.size
    · exact h1.2⟩
theorem RstI.start {g5 : Nat} {x : EN} (h : BinI pb A c T fin W g5 x s V) {cs : Array Value} (hcs : cs = (enL [x]).toArray) : RstI pb A c T fin W (V.heap.size + 1) at_ [x] (.slice (some ⟨V.heap.size, 0, none⟩) 1 1) s ((V.alloc (.cells cs 26)).alloc (.cells #[.int .i64 6, .int .i64 0, .string ⟨#[]⟩, .int .i64 at_, .slice (some ⟨V.heap.size, 0, none⟩) 1 1, .slice none 0 0, .slice none 0 0] 26)) := by
  have h0 := h.res.lt
  have ha := below_alloc V (.cells cs 26)
  have h1 : (V.alloc (.cells cs 26)).heap.size = V.heap.size + 1 := by simp
  have hb := below_alloc (V.alloc (.cells cs 26)) (.cells #[.int .i64 6, .int .i64 0, .string ⟨#[]⟩, .int .i64 at_, .slice (some ⟨V.heap.size, 0, none⟩) 1 1, .slice none 0 0, .slice none 0 0] 26)
  have h2 : ((V.alloc (.cells cs 26)).alloc (.cells #[.int .i64 6, .int .i64 0, .string ⟨#[]⟩, .int .i64 at_, .slice (some ⟨V.heap.size, 0, none⟩) 1 1, .slice none 0 0, .slice none 0 0] 26)).heap.size = V.heap.size + 2 := by simp
  have hR := Rw.one (W0 := W) (B := W.heap.size + 1) (S := fun k => k ≤ W.heap.size) (V := V) (x := x) (fun k hk => by have h9 : k ≤ W.heap.size := hk; omega) h.ok_le h0 hcs
  refine ⟨(h.zi.keep ha).keep hb, ?_, hR.more hb fun k hk => ?_, by omega⟩
  · rw [← h1]; exact Blk.new _ _ _
  · rcases hk with hk | hk
    · exact .inl hk
    · exact .inr (by omega)
theorem RstI.act (h : RstI pb A c T fin W g at_ xs v s V) (hp : PAt pb A c T fin s' V') (hf : PFr pb V V') : RstI pb A c T fin W g at_ xs v s' V' := by
  have h1 := h.g
  have h2 := h.zi.pb
  exact ⟨h.zi.act hp hf, hf.blk h.n (by show ¬ g = pb; omega), h.row.fr hf (fun k hk => .inl (by have h9 : k = pb := hk; omega)), h.g⟩
theorem RstI.keep (h : RstI pb A c T fin W g at_ xs v s V) (hb : Below V.heap.size V V') : RstI pb A c T fin W g at_ xs v s V' := ⟨h.zi.keep hb, h.n.keep hb, h.row.below hb, h.g⟩
theorem RstI.off (h : RstI pb A c T fin W g at_ xs v s V) {x : EN} (hx : x.Ok (fun k => k < V.heap.size) V') : x.Ok (fun k => (k ≤ W.heap.size ∨ k = g) ∨ v.ownBlock = some k) V' := h.row.off (x := x) hx
/-- Another kid: appended, and stored. -/
theorem RstI.push {x : EN} {V1 w' : World} (h : RstI pb A c T fin W g at_ xs v s V) (hb : Below V.heap.size V V1) (hx : x.Ok (fun k => (k ≤ W.heap.size ∨ k = g) ∨ v.ownBlock = some k) V1) {n : Nat} (hn : xs.length = n) (ho : w'.ownsRow (W.heap.size + 1) 26 7 v' (n + 1) (enL xs ++ x.cells)) (hg : V1.grownBy w' v.ownBlock) (hv : v'.ownBlock = v.ownBlock ∨ v'.ownBlock = some V1.heap.size) :
    RstI pb A c T fin W g at_ (xs ++ [x]) v' s (w'.setCell ⟨g, 4, none⟩ v') := by
  have h1 := h.g
  have h2 := h.zi.pb
  have h0 := h.zi.lt
  have hgl := h.n.lt
  have hF : Fr (fun k => v.ownBlock = some k) V1 w' := Fr.of_grown hg (fun k e _ => e)
  have hlo : ∀ k, v.ownBlock = some k → W.heap.size + 1 ≤ k ∧ k ≠ g := fun k hk => ⟨(h.row.own.lt k hk).1, fun e => h.row.apart k hk (.inr e)⟩
  have hR := (h.row.below hb).push (x := x) hx (by rw [hn]; exact ho) hg hv
  have hS := setC_fr w' g 4 v'
  have hz1 := h.zi.keep hb
  have hn1 : Blk w' g 26 #[.int .i64 6, .int .i64 0, .string ⟨#[]⟩, .int .i64 at_, v, .slice none 0 0, .slice none 0 0] := hF.blk (h.n.keep hb) (fun e => (hlo _ e).2 rfl)
  have hz2 : ZI pb A c T fin W s w' := ⟨hz1.p.far hF (fun e => by have := (hlo _ e).1; omega) (fun b o e e2 => by have := hz1.p.apart b o e; have := (hlo _ e2).1; omega), hz1.fr.trans hF (fun k hk e => by have := (hlo _ e).1; omega), hF.blk hz1.res (fun e => by have := (hlo _ e).1; omega), hz1.pb⟩
  exact ⟨⟨hz2.p.far hS (by show ¬ pb = g; omega) (fun b o e => by have := hz2.p.apart b o e; show ¬ b = g; omega), hz2.fr.trans hS (fun k hk e => by have h9 : k = g := e; omega), hS.blk hz2.res (by show ¬ W.heap.size = g; omega), h2⟩, hn1.set_ 4 v', hR.fr hS (fun k hk => .inr hk), h.g⟩
/-- The cell is given. -/
theorem RstI.give {B : Option Addr} {d n : Nat} (h : RstI pb A c T fin W g at_ xs (.slice B n d) s V) (hn : xs.length = n) (hF : Fr (fun k => k = W.heap.size) V V') :
    EN.Ok (fun k => k < W.heap.size) V' ⟨.mk 6 0 [] at_ (xs.map (fun x : EN => x.t)) [] [], B, d, none, 0, none, 0⟩ ∧ PAt pb A c T fin s V' ∧ PFr pb W V' :=
  h.zi.give ⟨(h.row.rdn hn).move (.sub_ fun k _ hk => .inl hk), RdC.nil_ _ _ _ (Nat.zero_le _), RdN.nil_ _ _ _ (Nat.zero_le _)⟩ hF

set_option maxRecDepth 100000 in
set_option maxHeartbeats 8000000 in
theorem rest_step {n : Nat} (H1 : NodeOk pb A c T fin 10 Lang.expr n) (H : NodeOk pb A c T fin 78 Lang.rest n) : NodeOk pb A c T fin 78 Lang.rest (n + 1) := by
  intro deep s W r hdp hr hp
  have hr' : restN T fin (lang T fin n) deep s = some r := hr
  unfold restN at hr'
  obtain ⟨q, hq, hl⟩ := bind_inv hr'
  have hlen := hp.len
  have HSUB : Hid (∀ V, PAt pb A c T fin s V → Calls Try.prog 10 #[.pointer (some ⟨pb, 0, none⟩), .int .i64 (deep : Int)] V (NEnd pb A c T fin V q)) := fun V hV => H1 deep s V q (by omega) hq hV
  have HPL : Hid (∀ V s, PAt pb A c T fin s V → Calls Try.prog 20 #[.pointer (some ⟨pb, 0, none⟩)] V fun e w' => e = .returned (.int .i64 (placeP T fin s)) ∧ Below V.heap.size V w') := fun V s hV => place_any hV
  have HTC : Hid (∀ V s, PAt pb A c T fin s V → Calls Try.prog 21 #[.pointer (some ⟨pb, 0, none⟩), .string ⟨#[44]⟩] V fun r w' => r = .returned (.bool (isP T sComma s)) ∧ PAt pb A c T fin (if isP T sComma s = true then nextP s else s) w' ∧ PFr pb V w') := fun V s hV => take_any hV sComma
  have HTB : Hid (∀ V s, PAt pb A c T fin s V → Calls Try.prog 21 #[.pointer (some ⟨pb, 0, none⟩), .string ⟨#[124]⟩] V fun r w' => r = .returned (.bool (isP T sBar s)) ∧ PAt pb A c T fin (if isP T sBar s = true then nextP s else s) w' ∧ PFr pb V w') := fun V s hV => take_any hV sBar
  have HMU : Hid (∀ V s, PAt pb A c T fin s V → Calls Try.prog 26 #[.pointer (some ⟨pb, 0, none⟩), .string ⟨#[93]⟩] V fun r w' => r = .returned (.tuple #[]) ∧ PAt pb A c T fin (mustP T fin sRb s) w' ∧ PFr pb V w') := fun V s hV => must_any hV sRb
  have HST := Lib.hid (ZI.start hp)
  have HH1 := Lib.hid H1
  have HH := Lib.hid H
  have HLL := Lib.hid hl
  clear hr hr' hq hl H hp H1
  go_enter Try.func78, Try.ntmps78
  go_upto_region 1 with (fail)
  refine wp_world (fun V => ZI pb A c T fin W s V) HST.out ?_
  intro V0 hz0
  clear HST
  go_upto_region 2 with (go_at_call 10; refine (HSUB.out _ hz0.p).mono ?_; rintro e V1 ⟨x, hx, rfl, hok, hp1, hf1⟩; replace hx := Lib.hid hx)
  have HI := Lib.hid (BinI.start hz0.fr hz0.res hz0.pb hok hp1 hf1)
  have HOK := Lib.hid (ok_le hok hz0.lt)
  obtain ⟨g5, hg5⟩ : ∃ g5, V1.heap.size = g5 := ⟨_, rfl⟩
  rw [hg5] at HI ⊢
  refine wp_world (fun V => BinI pb A c T fin W g5 x q.2 V) HI.out ?_
  clear HI hg5 hp1 hf1 hok HSUB hz0 HOK
  intro V2 hI2
  obtain ⟨a0, a1, a2, a3, a4, a5, a6⟩ := hI2.a.cells
  go_upto_region 3 with (fail)
  have hI3 := RstI.start (at_ := x.t.at_) hI2 (cs := (enL [x]).toArray) rfl
  obtain ⟨gk, hgk⟩ : ∃ gk, V2.heap.size = gk := ⟨_, rfl⟩
  rw [hgk] at hI3 ⊢
  refine wp_world (fun V => RstI pb A c T fin W (gk + 1) x.t.at_ [x] (.slice (some ⟨gk, 0, none⟩) 1 1) q.2 V) hI3 ?_
  clear hI3 hgk a0 a1 a2 a3 a4 a5 a6 hI2
  intro V3 hI3
  have HI := Lib.hid hI3
  clear hI3
  cases hbc : isP T sComma q.2 with
  | true =>
    have hl' := HLL.out
    rw [hbc, if_pos rfl] at hl'
    obtain ⟨q2, hq2, hl2⟩ := bind_inv hl'
    have HS2 : Hid (∀ V, PAt pb A c T fin (nextP q.2) V → Calls Try.prog 78 #[.pointer (some ⟨pb, 0, none⟩), .int .i64 (deep : Int)] V (NEnd pb A c T fin V q2)) := fun V hV => HH.out deep _ V q2 (by omega) hq2 hV
    have HRE := Lib.hid (Option.some.inj hl2)
    have HT2 : Hid (∀ V, PAt pb A c T fin q.2 V → Calls Try.prog 21 #[.pointer (some ⟨pb, 0, none⟩), .string ⟨#[44]⟩] V fun r w' => r = .returned (.bool true) ∧ PAt pb A c T fin (nextP q.2) w' ∧ PFr pb V w') := fun V hV => by
      have := HTC.out V q.2 hV
      rw [hbc, if_pos rfl] at this
      exact this
    clear hbc hl' hq2 hl2 HLL
    go_upto_region 4 with (go_at_call 21; refine (HT2.out _ HI.out.zi.p).mono ?_; rintro e V4 ⟨rfl, hp4, hf4⟩)
    refine wp_world (fun V => RstI pb A c T fin W (gk + 1) x.t.at_ [x] (.slice (some ⟨gk, 0, none⟩) 1 1) (nextP q.2) V) (HI.out.act hp4 hf4) ?_
    clear hp4 hf4 HI HT2
    intro V5 hI
    have HI5 := Lib.hid hI
    have ho5 : ∀ o, (V5.alloc o).ownsRow (W.heap.size + 1) 26 7 (.slice (some ⟨gk, 0, none⟩) 1 1) 1 (enL [x]) := fun o => list_own hI.row rfl
    refine wp_region_W 8 (fun X => X.cell? ⟨gk + 1, 4, none⟩ = some (.slice (some ⟨gk, 0, none⟩) 1 1)) (by kernel_rfl) ?_ (fun hS0 => ?_)
    · exact hI.n.cell 4
    clear hI ho5
    (refine wpAnyW_take (i := 0) (v := ?_) rfl (by kernel_rfl) (by kernel_rfl) (by kernel_rfl) (by kernel_rfl) (fun _ _ _ h => h) (Or.inl ⟨by kernel_rfl, ?_⟩) (by assumption) ?_; rotate_left; focus (intro V9 hS9; go_simp; (try (with_reducible rfl)); done))
    try simp only [Act.put, List.getElem_toArray, List.getElem_cons_zero, List.setIfInBounds_toArray, List.set_cons_succ, List.set_cons_zero]
    (refine wpAnyW_take (i := 1) (v := ?_) rfl (by kernel_rfl) (by kernel_rfl) (by kernel_rfl) (by kernel_rfl) (fun _ _ _ h => h) (Or.inl ⟨by kernel_rfl, ?_⟩) (by assumption) ?_; rotate_left; focus (intro V9 hS9; have g9 := hS9; go_simp; (try (with_reducible rfl)); done))
    try simp only [Act.put, List.getElem_toArray, List.getElem_cons_succ, List.getElem_cons_zero, List.setIfInBounds_toArray, List.set_cons_succ, List.set_cons_zero]
    (refine wpAnyW_take (i := 2) (v := ?_) rfl (by kernel_rfl) (by kernel_rfl) (by kernel_rfl) (by kernel_rfl) (fun _ _ _ h => h) (Or.inl ⟨by kernel_rfl, ?_⟩) (by assumption) ?_; rotate_left; focus (intro V9 hS9; go_simp; (try (with_reducible rfl)); done))
    try simp only [Act.put, List.getElem_toArray, List.getElem_cons_succ, List.getElem_cons_zero, List.setIfInBounds_toArray, List.set_cons_succ, List.set_cons_zero]
    (refine wpAnyW_take (i := 3) (v := ?_) rfl (by kernel_rfl) (by kernel_rfl) (by kernel_rfl) (by kernel_rfl) (fun _ _ _ h => h) (Or.inl ⟨by kernel_rfl, ?_⟩) (by assumption) ?_; rotate_left; focus (intro V9 hS9; go_simp; (try (with_reducible rfl)); done))
    try simp only [Act.put, List.getElem_toArray, List.getElem_cons_succ, List.getElem_cons_zero, List.setIfInBounds_toArray, List.set_cons_succ, List.set_cons_zero]
    refine wpAnyW_ready (rs := [4]) (by kernel_rfl) (by simp) ?_
    refine AllReadyW.cons rfl (fun K hK => ?_) AllReadyW.nil
    go_simp
    refine (HS2.out _ (HI5.out.zi.p.keep (below_drewN (Below.refl _ _) 1))).mono ?_
    rintro e V6 ⟨z, hz, rfl, hok, hp6, hf6⟩
    replace hz := Lib.hid hz
    have hI6 : RstI pb A c T fin W (gk + 1) x.t.at_ [x] (.slice (some ⟨gk, 0, none⟩) 1 1) q2.2 V6 := HI5.out.act hp6 ⟨hf6.os, hf6.tape, hf6.output, hf6.size, hf6.block⟩
    have hoff := HI5.out.off hok
    refine hK.out _ _ (hI6.n.cell 4) (fun _ => ?_)
    clear hK K
    try simp only [Act.put, List.getElem_toArray, List.getElem_cons_succ, List.getElem_cons_zero, List.setIfInBounds_toArray, List.set_cons_succ, List.set_cons_zero]
    refine wpAnyW_ready (rs := [5]) (by kernel_rfl) (by simp) ?_
    refine AllReadyW.cons rfl (fun K hK => ?_) AllReadyW.nil
    go_simp
    refine hK.out _ _ ((hI6.n.alloc _).cell 4) (fun _ => ?_)
    clear hK K
    try simp only [Act.put, List.getElem_toArray, List.getElem_cons_succ, List.getElem_cons_zero, List.setIfInBounds_toArray, List.set_cons_succ, List.set_cons_zero]
    refine wpAnyW_ready (rs := [6]) (by kernel_rfl) (by simp) ?_
    refine AllReadyW.cons rfl (fun K hK => ?_) AllReadyW.nil
    refine step_appO nodeT (by kernel_rfl) (.tmp 18) (.tmp 22) rfl (W.heap.size + 1) 1 (enL [x]) (.slice (some ⟨gk, 0, none⟩) 1 1) (list_own hI6.row rfl) (some ⟨V6.heap.size, 0, none⟩) 1 1 z.cells (by rfl) (by rfl) rfl (nbx_one (Blk.new V6 _ _)) z.cells_one (by unfold maxLen; omega) (by omega) (Nat.le_trans hI6.zi.lt (below_alloc _ _).size) ?_
    intro v7 w7 ho7 hg7 hat7
    replace ho7 : w7.ownsRow (W.heap.size + 1) 26 7 v7 2 (enL [x] ++ z.cells) := ho7
    obtain ⟨B7, d7, rfl⟩ := own_form ho7
    have hn7 : Blk w7 (gk + 1) 26 #[.int .i64 6, .int .i64 0, .string ⟨#[]⟩, .int .i64 x.t.at_, .slice (some ⟨gk, 0, none⟩) 1 1, .slice none 0 0, .slice none 0 0] := (hI6.n.alloc _).grown hg7 (fun e => hI6.row.apart _ e.symm (.inr rfl))
    have hI7 := hI6.push (below_alloc V6 (.cells z.cells.toArray 26)) (hoff.move (.of_below (below_alloc V6 (.cells z.cells.toArray 26)) fun _ _ h => h)) rfl ho7 hg7 hat7
    refine hK.out _ _ (hn7.cell 4) (fun _ => ?_)
    clear hK K
    try simp only [Act.put, List.getElem_toArray, List.getElem_cons_succ, List.getElem_cons_zero, List.setIfInBounds_toArray, List.set_cons_succ, List.set_cons_zero]
    (refine wpAnyW_take (i := 7) (v := ?_) rfl (by kernel_rfl) (by kernel_rfl) (by kernel_rfl) (by kernel_rfl) (fun _ _ _ h => h) (Or.inl ⟨by kernel_rfl, ?_⟩) (by assumption) ?_; rotate_left; focus (intro V9 hS9; go_simp; (try (with_reducible rfl)); done))
    try simp only [Act.put, List.getElem_toArray, List.getElem_cons_succ, List.getElem_cons_zero, List.setIfInBounds_toArray, List.set_cons_succ, List.set_cons_zero]
    refine wpAnyW_ready (rs := [8]) (by kernel_rfl) (by simp) ?_
    refine AllReadyW.consE rfl (by kernel_rfl) (fun K hK => ?_) AllReadyW.nil
    have hfz := hn7.frozen 4
    have gc : w7.cell? ⟨gk + 1, 4, none⟩ = some (.slice (some ⟨gk, 0, none⟩) 1 1) := hn7.cell 4
    go_simp
    refine hK.out _ _ ?_
    clear hK K
    refine wpAnyW_done (by kernel_rfl) ?_ _
    go_upto_region 5 with (fail)
    refine wp_world (fun V => RstI pb A c T fin W (gk + 1) x.t.at_ [x, z] (.slice B7 2 d7) q2.2 V) hI7 ?_
    clear hI7 hn7 hI6 hoff HI5 gc hfz ho7 hg7 hat7 hok hp6 hf6
    intro V9 hI
    have n0 := hI.n.cell 0
    have n1 := hI.n.cell 1
    have n2 := hI.n.cell 2
    have n3 := hI.n.cell 3
    have n4 := hI.n.cell 4
    have n5 := hI.n.cell 5
    have n6 := hI.n.cell 6
    simp only [List.getElem?_toArray, List.getElem?_cons_succ, List.getElem?_cons_zero] at n0 n1 n2 n3 n4 n5 n6
    obtain ⟨z0, z1, z2, z3, z4, z5, z6, f0, f1, f2, f3, f4, f5, f6⟩ := zbx_facts hI.zi.res
    go_wp2
    have hE := hI.give rfl (put7_fr V9 W.heap.size (.int .i64 6) (.int .i64 0) (.string ⟨#[]⟩) (.int .i64 x.t.at_) (.slice B7 2 d7) (.slice none 0 0) (.slice none 0 0))
    refine q_bp_world (fun V => NBx V W.heap.size (⟨.mk 6 0 [] x.t.at_ [x.t, z.t] [] [], B7, d7, none, 0, none, 0⟩ : EN) ∧ (⟨.mk 6 0 [] x.t.at_ [x.t, z.t] [] [], B7, d7, none, 0, none, 0⟩ : EN).Ok (fun k => k < W.heap.size) V ∧ PAt pb A c T fin q2.2 V ∧ PFr pb W V) ⟨put7_blk hI.zi.res _ _ _ _ _ _ _, hE⟩ ?_
    rintro V9 ⟨hB9, e1, e2, e3⟩
    obtain ⟨x0, x1, x2, x3, x4, x5, x6⟩ := hB9.cells
    obtain ⟨y9, hy9⟩ : ∃ y9, (⟨.mk 6 0 [] x.t.at_ [x.t, z.t] [] [], B7, d7, none, 0, none, 0⟩ : EN) = y9 := ⟨_, rfl⟩
    have HY9 : Hid (y9.t = r.1 ∧ q2.2 = r.2) := by rw [← hy9]; exact by rw [← HRE.out, ← hx.out, ← hz.out]; exact ⟨rfl, rfl⟩
    rw [hy9] at x0 x1 x2 x3 x4 x5 x6 e1
    exact bodyPost_ret (v := .agg #[.int .i64 y9.t.kind, .int .i64 y9.t.int, .string ⟨y9.t.name.toArray⟩, .int .i64 y9.t.at_, .slice y9.A y9.t.kids.length y9.c, .slice y9.B y9.t.clauses.length y9.d, .slice y9.C y9.t.body.length y9.e]) (by simp [results, Try.results78, go_sem, x0, x1, x2, x3, x4, x5, x6]) rfl ⟨y9, HY9.out.1, rfl, e1, by rw [← HY9.out.2]; exact e2, e3⟩
  | false =>
    have HT2 : Hid (∀ V, PAt pb A c T fin q.2 V → Calls Try.prog 21 #[.pointer (some ⟨pb, 0, none⟩), .string ⟨#[44]⟩] V fun r w' => r = .returned (.bool false) ∧ PAt pb A c T fin q.2 w' ∧ PFr pb V w') := fun V hV => by
      have := HTC.out V q.2 hV
      rw [hbc, if_neg (by simp)] at this
      exact this
    have HLL2 := HLL.out
    rw [hbc, if_neg (by simp)] at HLL2
    clear hbc HLL
    have HLL := Lib.hid HLL2
    clear HLL2
    cases hbb : isP T sBar q.2 with
    | true =>
      have hl' := HLL.out
      rw [hbb, if_pos rfl] at hl'
      obtain ⟨q2, hq2, hl2⟩ := bind_inv hl'
      have HS2 : Hid (∀ V, PAt pb A c T fin (nextP q.2) V → Calls Try.prog 10 #[.pointer (some ⟨pb, 0, none⟩), .int .i64 (deep : Int)] V (NEnd pb A c T fin V q2)) := fun V hV => HH1.out deep _ V q2 (by omega) hq2 hV
      have HRE := Lib.hid (Option.some.inj hl2)
      have HT3 : Hid (∀ V, PAt pb A c T fin q.2 V → Calls Try.prog 21 #[.pointer (some ⟨pb, 0, none⟩), .string ⟨#[124]⟩] V fun r w' => r = .returned (.bool true) ∧ PAt pb A c T fin (nextP q.2) w' ∧ PFr pb V w') := fun V hV => by
        have := HTB.out V q.2 hV
        rw [hbb, if_pos rfl] at this
        exact this
      clear hbb hl' hq2 hl2 HLL
      go_upto_region 7 with (first
        | (go_at_call 21; with_reducible refine (HT2.out _ HI.out.zi.p).mono ?_; rintro e V4 ⟨rfl, hp4, hf4⟩)
        | (go_at_call 21; with_reducible refine (HT3.out _ hp4).mono ?_; rintro e V4 ⟨rfl, hp5, hf5⟩))
      refine wp_world (fun V => RstI pb A c T fin W (gk + 1) x.t.at_ [x] (.slice (some ⟨gk, 0, none⟩) 1 1) (nextP q.2) V) ((HI.out.act hp4 hf4).act hp5 hf5) ?_
      clear hp4 hf4 hp5 hf5 HI HT2 HT3
      intro V5 hI
      have HI5 := Lib.hid hI
      have ho5 : ∀ o, (V5.alloc o).ownsRow (W.heap.size + 1) 26 7 (.slice (some ⟨gk, 0, none⟩) 1 1) 1 (enL [x]) := fun o => list_own hI.row rfl
      refine wp_region_W 8 (fun X => X.cell? ⟨gk + 1, 4, none⟩ = some (.slice (some ⟨gk, 0, none⟩) 1 1)) (by kernel_rfl) ?_ (fun hS0 => ?_)
      · exact hI.n.cell 4
      clear hI ho5
      (refine wpAnyW_take (i := 0) (v := ?_) rfl (by kernel_rfl) (by kernel_rfl) (by kernel_rfl) (by kernel_rfl) (fun _ _ _ h => h) (Or.inl ⟨by kernel_rfl, ?_⟩) (by assumption) ?_; rotate_left; focus (intro V9 hS9; go_simp; (try (with_reducible rfl)); done))
      try simp only [Act.put, List.getElem_toArray, List.getElem_cons_zero, List.setIfInBounds_toArray, List.set_cons_succ, List.set_cons_zero]
      (refine wpAnyW_take (i := 1) (v := ?_) rfl (by kernel_rfl) (by kernel_rfl) (by kernel_rfl) (by kernel_rfl) (fun _ _ _ h => h) (Or.inl ⟨by kernel_rfl, ?_⟩) (by assumption) ?_; rotate_left; focus (intro V9 hS9; have g9 := hS9; go_simp; (try (with_reducible rfl)); done))
      try simp only [Act.put, List.getElem_toArray, List.getElem_cons_succ, List.getElem_cons_zero, List.setIfInBounds_toArray, List.set_cons_succ, List.set_cons_zero]
      (refine wpAnyW_take (i := 2) (v := ?_) rfl (by kernel_rfl) (by kernel_rfl) (by kernel_rfl) (by kernel_rfl) (fun _ _ _ h => h) (Or.inl ⟨by kernel_rfl, ?_⟩) (by assumption) ?_; rotate_left; focus (intro V9 hS9; go_simp; (try (with_reducible rfl)); done))
      try simp only [Act.put, List.getElem_toArray, List.getElem_cons_succ, List.getElem_cons_zero, List.setIfInBounds_toArray, List.set_cons_succ, List.set_cons_zero]
      (refine wpAnyW_take (i := 3) (v := ?_) rfl (by kernel_rfl) (by kernel_rfl) (by kernel_rfl) (by kernel_rfl) (fun _ _ _ h => h) (Or.inl ⟨by kernel_rfl, ?_⟩) (by assumption) ?_; rotate_left; focus (intro V9 hS9; go_simp; (try (with_reducible rfl)); done))
      try simp only [Act.put, List.getElem_toArray, List.getElem_cons_succ, List.getElem_cons_zero, List.setIfInBounds_toArray, List.set_cons_succ, List.set_cons_zero]
      refine wpAnyW_ready (rs := [4]) (by kernel_rfl) (by simp) ?_
      refine AllReadyW.cons rfl (fun K hK => ?_) AllReadyW.nil
      go_simp
      refine (HS2.out _ (HI5.out.zi.p.keep (below_drewN (Below.refl _ _) 1))).mono ?_
      rintro e V6 ⟨z, hz, rfl, hok, hp6, hf6⟩
      replace hz := Lib.hid hz
      have hI6 : RstI pb A c T fin W (gk + 1) x.t.at_ [x] (.slice (some ⟨gk, 0, none⟩) 1 1) q2.2 V6 := HI5.out.act hp6 ⟨hf6.os, hf6.tape, hf6.output, hf6.size, hf6.block⟩
      have hoff := HI5.out.off hok
      refine hK.out _ _ (hI6.n.cell 4) (fun _ => ?_)
      clear hK K
      try simp only [Act.put, List.getElem_toArray, List.getElem_cons_succ, List.getElem_cons_zero, List.setIfInBounds_toArray, List.set_cons_succ, List.set_cons_zero]
      refine wpAnyW_ready (rs := [5]) (by kernel_rfl) (by simp) ?_
      refine AllReadyW.cons rfl (fun K hK => ?_) AllReadyW.nil
      go_simp
      refine hK.out _ _ ((hI6.n.alloc _).cell 4) (fun _ => ?_)
      clear hK K
      try simp only [Act.put, List.getElem_toArray, List.getElem_cons_succ, List.getElem_cons_zero, List.setIfInBounds_toArray, List.set_cons_succ, List.set_cons_zero]
      refine wpAnyW_ready (rs := [6]) (by kernel_rfl) (by simp) ?_
      refine AllReadyW.cons rfl (fun K hK => ?_) AllReadyW.nil
      refine step_appO nodeT (by kernel_rfl) (.tmp 29) (.tmp 33) rfl (W.heap.size + 1) 1 (enL [x]) (.slice (some ⟨gk, 0, none⟩) 1 1) (list_own hI6.row rfl) (some ⟨V6.heap.size, 0, none⟩) 1 1 z.cells (by rfl) (by rfl) rfl (nbx_one (Blk.new V6 _ _)) z.cells_one (by unfold maxLen; omega) (by omega) (Nat.le_trans hI6.zi.lt (below_alloc _ _).size) ?_
      intro v7 w7 ho7 hg7 hat7
      replace ho7 : w7.ownsRow (W.heap.size + 1) 26 7 v7 2 (enL [x] ++ z.cells) := ho7
      obtain ⟨B7, d7, rfl⟩ := own_form ho7
      have hn7 : Blk w7 (gk + 1) 26 #[.int .i64 6, .int .i64 0, .string ⟨#[]⟩, .int .i64 x.t.at_, .slice (some ⟨gk, 0, none⟩) 1 1, .slice none 0 0, .slice none 0 0] := (hI6.n.alloc _).grown hg7 (fun e => hI6.row.apart _ e.symm (.inr rfl))
      have hI7 := hI6.push (below_alloc V6 (.cells z.cells.toArray 26)) (hoff.move (.of_below (below_alloc V6 (.cells z.cells.toArray 26)) fun _ _ h => h)) rfl ho7 hg7 hat7
      refine hK.out _ _ (hn7.cell 4) (fun _ => ?_)
      clear hK K
      try simp only [Act.put, List.getElem_toArray, List.getElem_cons_succ, List.getElem_cons_zero, List.setIfInBounds_toArray, List.set_cons_succ, List.set_cons_zero]
      (refine wpAnyW_take (i := 7) (v := ?_) rfl (by kernel_rfl) (by kernel_rfl) (by kernel_rfl) (by kernel_rfl) (fun _ _ _ h => h) (Or.inl ⟨by kernel_rfl, ?_⟩) (by assumption) ?_; rotate_left; focus (intro V9 hS9; go_simp; (try (with_reducible rfl)); done))
      try simp only [Act.put, List.getElem_toArray, List.getElem_cons_succ, List.getElem_cons_zero, List.setIfInBounds_toArray, List.set_cons_succ, List.set_cons_zero]
      refine wpAnyW_ready (rs := [8]) (by kernel_rfl) (by simp) ?_
      refine AllReadyW.consE rfl (by kernel_rfl) (fun K hK => ?_) AllReadyW.nil
      have hfz := hn7.frozen 4
      have gc : w7.cell? ⟨gk + 1, 4, none⟩ = some (.slice (some ⟨gk, 0, none⟩) 1 1) := hn7.cell 4
      go_simp
      refine hK.out _ _ ?_
      clear hK K
      refine wpAnyW_done (by kernel_rfl) ?_ _
      go_upto_region 8 with (fail)
      refine wp_world (fun V => RstI pb A c T fin W (gk + 1) x.t.at_ [x, z] (.slice B7 2 d7) q2.2 V) hI7 ?_
      clear hI7 hn7 hI6 hoff HI5 gc hfz ho7 hg7 hat7 hok hp6 hf6
      intro V8 hI8
      go_upto_region 9 with (go_at_call 26; refine (HMU.out _ _ hI8.zi.p).mono ?_; rintro e V4 ⟨rfl, hp4, hf4⟩)
      refine wp_world (fun V => RstI pb A c T fin W (gk + 1) x.t.at_ [x, z] (.slice B7 2 d7) (mustP T fin sRb q2.2) V) (hI8.act hp4 hf4) ?_
      clear hI8 hp4 hf4
      intro V9 hI
      have n0 := hI.n.cell 0
      have n1 := hI.n.cell 1
      have n2 := hI.n.cell 2
      have n3 := hI.n.cell 3
      have n4 := hI.n.cell 4
      have n5 := hI.n.cell 5
      have n6 := hI.n.cell 6
      simp only [List.getElem?_toArray, List.getElem?_cons_succ, List.getElem?_cons_zero] at n0 n1 n2 n3 n4 n5 n6
      obtain ⟨z0, z1, z2, z3, z4, z5, z6, f0, f1, f2, f3, f4, f5, f6⟩ := zbx_facts hI.zi.res
      go_wp2
      have hE := hI.give rfl (put7_fr V9 W.heap.size (.int .i64 6) (.int .i64 0) (.string ⟨#[]⟩) (.int .i64 x.t.at_) (.slice B7 2 d7) (.slice none 0 0) (.slice none 0 0))
      refine q_bp_world (fun V => NBx V W.heap.size (⟨.mk 6 0 [] x.t.at_ [x.t, z.t] [] [], B7, d7, none, 0, none, 0⟩ : EN) ∧ (⟨.mk 6 0 [] x.t.at_ [x.t, z.t] [] [], B7, d7, none, 0, none, 0⟩ : EN).Ok (fun k => k < W.heap.size) V ∧ PAt pb A c T fin (mustP T fin sRb q2.2) V ∧ PFr pb W V) ⟨put7_blk hI.zi.res _ _ _ _ _ _ _, hE⟩ ?_
      rintro V9 ⟨hB9, e1, e2, e3⟩
      obtain ⟨x0, x1, x2, x3, x4, x5, x6⟩ := hB9.cells
      obtain ⟨y9, hy9⟩ : ∃ y9, (⟨.mk 6 0 [] x.t.at_ [x.t, z.t] [] [], B7, d7, none, 0, none, 0⟩ : EN) = y9 := ⟨_, rfl⟩
      have HY9 : Hid (y9.t = r.1 ∧ (mustP T fin sRb q2.2) = r.2) := by rw [← hy9]; exact by rw [← HRE.out, ← hx.out, ← hz.out]; exact ⟨rfl, rfl⟩
      rw [hy9] at x0 x1 x2 x3 x4 x5 x6 e1
      exact bodyPost_ret (v := .agg #[.int .i64 y9.t.kind, .int .i64 y9.t.int, .string ⟨y9.t.name.toArray⟩, .int .i64 y9.t.at_, .slice y9.A y9.t.kids.length y9.c, .slice y9.B y9.t.clauses.length y9.d, .slice y9.C y9.t.body.length y9.e]) (by simp [results, Try.results78, go_sem, x0, x1, x2, x3, x4, x5, x6]) rfl ⟨y9, HY9.out.1, rfl, e1, by rw [← HY9.out.2]; exact e2, e3⟩
    | false =>
      have hl' := HLL.out
      rw [hbb, if_neg (by simp)] at hl'
      have HT3 : Hid (∀ V, PAt pb A c T fin q.2 V → Calls Try.prog 21 #[.pointer (some ⟨pb, 0, none⟩), .string ⟨#[124]⟩] V fun r w' => r = .returned (.bool false) ∧ PAt pb A c T fin q.2 w' ∧ PFr pb V w') := fun V hV => by
        have := HTB.out V q.2 hV
        rw [hbb, if_neg (by simp)] at this
        exact this
      obtain ⟨pl, hpl⟩ : ∃ pl, placeP T fin q.2 = pl := ⟨_, rfl⟩
      have HP2 : Hid (∀ V, PAt pb A c T fin q.2 V → Calls Try.prog 20 #[.pointer (some ⟨pb, 0, none⟩)] V fun e w' => e = .returned (.int .i64 pl) ∧ Below V.heap.size V w') := fun V hV => by rw [← hpl]; exact HPL.out V q.2 hV
      rw [hpl] at hl'
      have HRE := Lib.hid (Option.some.inj hl')
      clear hbb hl' HLL hpl
      go_upto_region 10 with (first
        | (go_at_call 21; with_reducible refine (HT2.out _ HI.out.zi.p).mono ?_; rintro e V4 ⟨rfl, hp4, hf4⟩)
        | (go_at_call 21; with_reducible refine (HT3.out _ hp4).mono ?_; rintro e V4 ⟨rfl, hp5, hf5⟩))
      refine wp_world (fun V => RstI pb A c T fin W (gk + 1) x.t.at_ [x] (.slice (some ⟨gk, 0, none⟩) 1 1) q.2 V) ((HI.out.act hp4 hf4).act hp5 hf5) ?_
      clear hp4 hf4 hp5 hf5 HI HT2 HT3
      intro V5 hI
      have HI5 := Lib.hid hI
      have ho5 : ∀ o, (V5.alloc o).ownsRow (W.heap.size + 1) 26 7 (.slice (some ⟨gk, 0, none⟩) 1 1) 1 (enL [x]) := fun o => list_own hI.row rfl
      refine wp_region_W 8 (fun X => X.cell? ⟨gk + 1, 4, none⟩ = some (.slice (some ⟨gk, 0, none⟩) 1 1)) (by kernel_rfl) ?_ (fun hS0 => ?_)
      · exact hI.n.cell 4
      clear hI ho5
      (refine wpAnyW_take (i := 0) (v := ?_) rfl (by kernel_rfl) (by kernel_rfl) (by kernel_rfl) (by kernel_rfl) (fun _ _ _ h => h) (Or.inl ⟨by kernel_rfl, ?_⟩) (by assumption) ?_; rotate_left; focus (intro V9 hS9; go_simp; (try (with_reducible rfl)); done))
      try simp only [Act.put, List.getElem_toArray, List.getElem_cons_zero, List.setIfInBounds_toArray, List.set_cons_succ, List.set_cons_zero]
      (refine wpAnyW_take (i := 1) (v := ?_) rfl (by kernel_rfl) (by kernel_rfl) (by kernel_rfl) (by kernel_rfl) (fun _ _ _ h => h) (Or.inl ⟨by kernel_rfl, ?_⟩) (by assumption) ?_; rotate_left; focus (intro V9 hS9; have g9 := hS9; go_simp; (try (with_reducible rfl)); done))
      try simp only [Act.put, List.getElem_toArray, List.getElem_cons_succ, List.getElem_cons_zero, List.setIfInBounds_toArray, List.set_cons_succ, List.set_cons_zero]
      (refine wpAnyW_take (i := 2) (v := ?_) rfl (by kernel_rfl) (by kernel_rfl) (by kernel_rfl) (by kernel_rfl) (fun _ _ _ h => h) (Or.inl ⟨by kernel_rfl, ?_⟩) (by assumption) ?_; rotate_left; focus (intro V9 hS9; go_simp; (try (with_reducible rfl)); done))
      try simp only [Act.put, List.getElem_toArray, List.getElem_cons_succ, List.getElem_cons_zero, List.setIfInBounds_toArray, List.set_cons_succ, List.set_cons_zero]
      refine wpAnyW_ready (rs := [3]) (by kernel_rfl) (by simp) ?_
      refine AllReadyW.cons rfl (fun K hK => ?_) AllReadyW.nil
      go_simp
      refine (HP2.out _ (HI5.out.zi.p.keep (below_drewN (Below.refl _ _) 1))).mono ?_
      rintro e V6 ⟨rfl, hb6⟩
      have hb6' : Below V5.heap.size V5 V6 := ⟨hb6.os, hb6.tape, hb6.output, hb6.size, hb6.block⟩
      have hI6 : RstI pb A c T fin W (gk + 1) x.t.at_ [x] (.slice (some ⟨gk, 0, none⟩) 1 1) q.2 V6 := HI5.out.keep hb6'
      have hoff : EN.Ok (fun k => (k ≤ W.heap.size ∨ k = gk + 1) ∨ (Value.slice (some ⟨gk, 0, none⟩) 1 1).ownBlock = some k) V6 (⟨.mk 5 0 [] pl [] [] [], none, 0, none, 0, none, 0⟩ : EN) := ⟨RdN.nil_ _ _ _ (Nat.zero_le _), RdC.nil_ _ _ _ (Nat.zero_le _), RdN.nil_ _ _ _ (Nat.zero_le _)⟩
      refine hK.out _ _ (hI6.n.cell 4) (fun _ => ?_)
      clear hK K
      try simp only [Act.put, List.getElem_toArray, List.getElem_cons_succ, List.getElem_cons_zero, List.setIfInBounds_toArray, List.set_cons_succ, List.set_cons_zero]
      (refine wpAnyW_take (i := 4) (v := ?_) rfl (by kernel_rfl) (by kernel_rfl) (by kernel_rfl) (by kernel_rfl) (fun _ _ _ h => h) (Or.inl ⟨by kernel_rfl, ?_⟩) (by assumption) ?_; rotate_left; focus (intro V9 hS9; go_simp; (try (with_reducible rfl)); done))
      try simp only [Act.put, List.getElem_toArray, List.getElem_cons_succ, List.getElem_cons_zero, List.setIfInBounds_toArray, List.set_cons_succ, List.set_cons_zero]
      refine wpAnyW_ready (rs := [5]) (by kernel_rfl) (by simp) ?_
      refine AllReadyW.cons rfl (fun K hK => ?_) AllReadyW.nil
      go_simp
      refine hK.out _ _ ((hI6.n.alloc _).cell 4) (fun _ => ?_)
      clear hK K
      try simp only [Act.put, List.getElem_toArray, List.getElem_cons_succ, List.getElem_cons_zero, List.setIfInBounds_toArray, List.set_cons_succ, List.set_cons_zero]
      refine wpAnyW_ready (rs := [6]) (by kernel_rfl) (by simp) ?_
      refine AllReadyW.cons rfl (fun K hK => ?_) AllReadyW.nil
      refine step_appO nodeT (by kernel_rfl) (.tmp 40) (.tmp 44) rfl (W.heap.size + 1) 1 (enL [x]) (.slice (some ⟨gk, 0, none⟩) 1 1) (list_own hI6.row rfl) (some ⟨V6.heap.size, 0, none⟩) 1 1 (EN.cells (⟨.mk 5 0 [] pl [] [] [], none, 0, none, 0, none, 0⟩ : EN)) (by rfl) (by rfl) rfl (nbx_one (Blk.new V6 _ _)) (EN.cells_one (⟨.mk 5 0 [] pl [] [] [], none, 0, none, 0, none, 0⟩ : EN)) (by unfold maxLen; omega) (by omega) (Nat.le_trans hI6.zi.lt (below_alloc _ _).size) ?_
      intro v7 w7 ho7 hg7 hat7
      replace ho7 : w7.ownsRow (W.heap.size + 1) 26 7 v7 2 (enL [x] ++ (EN.cells (⟨.mk 5 0 [] pl [] [] [], none, 0, none, 0, none, 0⟩ : EN))) := ho7
      obtain ⟨B7, d7, rfl⟩ := own_form ho7
      have hn7 : Blk w7 (gk + 1) 26 #[.int .i64 6, .int .i64 0, .string ⟨#[]⟩, .int .i64 x.t.at_, .slice (some ⟨gk, 0, none⟩) 1 1, .slice none 0 0, .slice none 0 0] := (hI6.n.alloc _).grown hg7 (fun e => hI6.row.apart _ e.symm (.inr rfl))
      have hI7 := hI6.push (below_alloc V6 (.cells (EN.cells (⟨.mk 5 0 [] pl [] [] [], none, 0, none, 0, none, 0⟩ : EN)).toArray 26)) (hoff.move (.of_below (below_alloc V6 (.cells (EN.cells (⟨.mk 5 0 [] pl [] [] [], none, 0, none, 0, none, 0⟩ : EN)).toArray 26)) fun _ _ h => h)) rfl ho7 hg7 hat7
      refine hK.out _ _ (hn7.cell 4) (fun _ => ?_)
      clear hK K
      try simp only [Act.put, List.getElem_toArray, List.getElem_cons_succ, List.getElem_cons_zero, List.setIfInBounds_toArray, List.set_cons_succ, List.set_cons_zero]
      (refine wpAnyW_take (i := 7) (v := ?_) rfl (by kernel_rfl) (by kernel_rfl) (by kernel_rfl) (by kernel_rfl) (fun _ _ _ h => h) (Or.inl ⟨by kernel_rfl, ?_⟩) (by assumption) ?_; rotate_left; focus (intro V9 hS9; go_simp; (try (with_reducible rfl)); done))
      try simp only [Act.put, List.getElem_toArray, List.getElem_cons_succ, List.getElem_cons_zero, List.setIfInBounds_toArray, List.set_cons_succ, List.set_cons_zero]
      refine wpAnyW_ready (rs := [8]) (by kernel_rfl) (by simp) ?_
      refine AllReadyW.consE rfl (by kernel_rfl) (fun K hK => ?_) AllReadyW.nil
      have hfz := hn7.frozen 4
      have gc : w7.cell? ⟨gk + 1, 4, none⟩ = some (.slice (some ⟨gk, 0, none⟩) 1 1) := hn7.cell 4
      go_simp
      refine hK.out _ _ ?_
      clear hK K
      refine wpAnyW_done (by kernel_rfl) ?_ _
      go_upto_region 11 with (fail)
      refine wp_world (fun V => RstI pb A c T fin W (gk + 1) x.t.at_ [x, ⟨.mk 5 0 [] pl [] [] [], none, 0, none, 0, none, 0⟩] (.slice B7 2 d7) q.2 V) hI7 ?_
      clear hI7 hn7 hI6 hoff HI5 gc hfz ho7 hg7 hat7
      intro V8 hI8
      go_upto_region 12 with (go_at_call 26; refine (HMU.out _ _ hI8.zi.p).mono ?_; rintro e V4 ⟨rfl, hp4, hf4⟩)
      refine wp_world (fun V => RstI pb A c T fin W (gk + 1) x.t.at_ [x, ⟨.mk 5 0 [] pl [] [] [], none, 0, none, 0, none, 0⟩] (.slice B7 2 d7) (mustP T fin sRb q.2) V) (hI8.act hp4 hf4) ?_
      clear hI8 hp4 hf4
      intro V9 hI
      have n0 := hI.n.cell 0
      have n1 := hI.n.cell 1
      have n2 := hI.n.cell 2
      have n3 := hI.n.cell 3
      have n4 := hI.n.cell 4
      have n5 := hI.n.cell 5
      have n6 := hI.n.cell 6
      simp only [List.getElem?_toArray, List.getElem?_cons_succ, List.getElem?_cons_zero] at n0 n1 n2 n3 n4 n5 n6
      obtain ⟨z0, z1, z2, z3, z4, z5, z6, f0, f1, f2, f3, f4, f5, f6⟩ := zbx_facts hI.zi.res
      go_wp2
      have hE := hI.give rfl (put7_fr V9 W.heap.size (.int .i64 6) (.int .i64 0) (.string ⟨#[]⟩) (.int .i64 x.t.at_) (.slice B7 2 d7) (.slice none 0 0) (.slice none 0 0))
      refine q_bp_world (fun V => NBx V W.heap.size (⟨.mk 6 0 [] x.t.at_ [x.t, (.mk 5 0 [] pl [] [] [])] [] [], B7, d7, none, 0, none, 0⟩ : EN) ∧ (⟨.mk 6 0 [] x.t.at_ [x.t, (.mk 5 0 [] pl [] [] [])] [] [], B7, d7, none, 0, none, 0⟩ : EN).Ok (fun k => k < W.heap.size) V ∧ PAt pb A c T fin (mustP T fin sRb q.2) V ∧ PFr pb W V) ⟨put7_blk hI.zi.res _ _ _ _ _ _ _, hE⟩ ?_
      rintro V9 ⟨hB9, e1, e2, e3⟩
      obtain ⟨x0, x1, x2, x3, x4, x5, x6⟩ := hB9.cells
      obtain ⟨y9, hy9⟩ : ∃ y9, (⟨.mk 6 0 [] x.t.at_ [x.t, (.mk 5 0 [] pl [] [] [])] [] [], B7, d7, none, 0, none, 0⟩ : EN) = y9 := ⟨_, rfl⟩
      have HY9 : Hid (y9.t = r.1 ∧ (mustP T fin sRb q.2) = r.2) := by rw [← hy9]; exact by rw [← HRE.out, ← hx.out]; exact ⟨rfl, rfl⟩
      rw [hy9] at x0 x1 x2 x3 x4 x5 x6 e1
      exact bodyPost_ret (v := .agg #[.int .i64 y9.t.kind, .int .i64 y9.t.int, .string ⟨y9.t.name.toArray⟩, .int .i64 y9.t.at_, .slice y9.A y9.t.kids.length y9.c, .slice y9.B y9.t.clauses.length y9.d, .slice y9.C y9.t.body.length y9.e]) (by simp [results, Try.results78, go_sem, x0, x1, x2, x3, x4, x5, x6]) rfl ⟨y9, HY9.out.1, rfl, e1, by rw [← HY9.out.2]; exact e2, e3⟩

end
end
section
open Go.RowKit
set_option linter.unusedVariables false
/-- The state of a loop that makes clauses. -/
structure ArmI (pb : Nat) (A : Option Addr) (c : Nat) (T : List Tok) (fin : Nat) (W : World) (S : Nat → Prop) (xs : List EC) (v : Value) (s : PS) (wx : World) : Prop where
  p : PAt pb A c T fin s wx
  fr : PFr pb W wx
  row : Rw eltC W.heap.size S xs v wx
  inS : S pb
  lt : pb < W.heap.size
theorem Rw.less {α : Type} {E : Elt α} {B : Nat} {S S' : Nat → Prop} {xs : List α} {v : Value} {V : World} (h : Rw E B S xs v V) (hS : ∀ k, S' k → S k) : Rw E B S' xs v V :=
  ⟨h.own, fun x hx => E.move (h.each x hx) (.sub_ fun k _ hk => by
    rcases hk with hk | hk
    · exact .inl (hS k hk)
    · exact .inr hk), fun k hk hs => h.apart k hk (hS k hs), fun k hk => h.lt k (hS k hk)⟩
theorem arm_own {B : Nat} {S : Nat → Prop} {xs : List EC} {k : Nat} {v : Value} {V : World} (h : Rw eltC B S xs v V) (hk : xs.length = k) {o : Obj} : (V.alloc o).ownsRow B 67 5 v k (ecL xs) := by
  subst hk
  exact (h.below (below_alloc V o)).own
theorem cbx_one {V : World} {g : Nat} {x : EC} (h : CBx V g x) : Cs V (some ⟨g, 0, none⟩) x.cells := blk_cs (xs := x.cells) h
section
variable {pb : Nat} {A : Option Addr} {c : Nat} {T : List Tok} {fin : Nat} {W : World} {S S' : Nat → Prop} {xs : List EC} {v v' : Value} {s s' : PS} {V V' : World}
theorem ArmI.act (h : ArmI pb A c T fin W S xs v s V) (hp : PAt pb A c T fin s' V') (hf : PFr pb V V') : ArmI pb A c T fin W S xs v s' V' :=
  ⟨hp, h.fr.same hf, h.row.fr hf (fun k hk => by have h9 : k = pb := hk; rw [h9]; exact h.inS), h.inS, h.lt⟩
theorem ArmI.keep (h : ArmI pb A c T fin W S xs v s V) (hb : Below V.heap.size V V') : ArmI pb A c T fin W S xs v s V' := ⟨h.p.keep hb, h.fr.same (Fr.of_below hb _), h.row.below hb, h.inS, h.lt⟩
/-- A new block is kept off. -/
theorem ArmI.more (h : ArmI pb A c T fin W S xs v s V) (o : Obj) : ArmI pb A c T fin W (fun k => S k ∨ k = V.heap.size) xs v s (V.alloc o) :=
  ⟨h.p.keep (below_alloc _ _), h.fr.same (Fr.alloc _ _ _), h.row.more (below_alloc V o) (fun k hk => by
    have h1 : (V.alloc o).heap.size = V.heap.size + 1 := by simp
    rcases hk with hk | hk
    · exact .inl hk
    · exact .inr (by omega)), .inl h.inS, h.lt⟩
theorem ArmI.less (h : ArmI pb A c T fin W S xs v s V) (hS : ∀ k, S' k → S k) (hp : S' pb) : ArmI pb A c T fin W S' xs v s V := ⟨h.p, h.fr, h.row.less hS, hp, h.lt⟩
/-- A box of the call's own, which is kept off, is written. -/
theorem ArmI.box {g : Nat} (h : ArmI pb A c T fin W S xs v s V) (hF : Fr (fun k => k = g) V V') (hg : W.heap.size ≤ g) (hS : S g) : ArmI pb A c T fin W S xs v s V' := by
  have h2 := h.lt
  exact ⟨h.p.far hF (by show ¬ pb = g; omega) (fun b o e => by have := h.p.apart b o e; show ¬ b = g; omega), h.fr.trans hF (fun k hk e => by have h9 : k = g := e; omega), h.row.fr hF (fun k hk => by have h9 : k = g := hk; rw [h9]; exact hS), h.inS, h.lt⟩
theorem ArmI.push {x : EC} {w' : World} {o : Obj} (h : ArmI pb A c T fin W S xs v s V) (hx : x.Ok (fun k => S k ∨ v.ownBlock = some k) V) {n : Nat} (hn : xs.length = n) (ho : w'.ownsRow W.heap.size 67 5 v' (n + 1) (ecL xs ++ x.cells)) (hg : (V.alloc o).grownBy w' v.ownBlock) (hat : v'.ownBlock = v.ownBlock ∨ v'.ownBlock = some (V.alloc o).heap.size) :
    ArmI pb A c T fin W S (xs ++ [x]) v' s w' := by
  have h2 := h.lt
  have hr := h.row.below (below_alloc V o)
  have hF : Fr (fun k => v.ownBlock = some k) (V.alloc o) w' := Fr.of_grown hg (fun k e _ => e)
  have hn' : ∀ k, v.ownBlock = some k → W.heap.size ≤ k := fun k hk => (h.row.own.lt k hk).1
  exact ⟨(h.p.keep (below_alloc V o)).far hF (fun e => by have := hn' _ e; omega) (fun b q e e2 => by have := hn' _ e2; have := h.p.apart b q e; omega), (h.fr.same (Fr.alloc _ _ _)).trans hF (fun k hk e => by have := hn' _ e; omega), hr.push (x := x) (EC.Ok.move hx (.of_below (below_alloc V o) fun _ _ h => h)) (by rw [hn]; exact ho) hg hat, h.inS, h.lt⟩

set_option maxRecDepth 100000 in
set_option maxHeartbeats 8000000 in
theorem arms_step {n : Nat} (H1 : ∀ m, m ≤ n → NodeOk pb A c T fin 10 Lang.expr m) (H2 : ∀ m, m ≤ n → TailOk pb A c T fin m) : ArmsOk pb A c T fin (n + 1) := by
  intro deep s W r hdp hr hp
  have hlen := hp.len
  have hpb := hp.obj.lt
  have hdq : deep + (n + 1) ≤ 4611686018427387904 := hdp
  have HEX := Lib.hid H1
  have HTL := Lib.hid H2
  have HPL : Hid (∀ V s, PAt pb A c T fin s V → Calls Try.prog 20 #[.pointer (some ⟨pb, 0, none⟩)] V fun e w' => e = .returned (.int .i64 (placeP T fin s)) ∧ Below V.heap.size V w') := fun V s hV => place_any hV
  have HTK : Hid (∀ V s, PAt pb A c T fin s V → Calls Try.prog 21 #[.pointer (some ⟨pb, 0, none⟩), .string ⟨#[59]⟩] V fun r w' => r = .returned (.bool (isP T sSemi s)) ∧ PAt pb A c T fin (if isP T sSemi s = true then nextP s else s) w' ∧ PFr pb V w') := fun V s hV => take_any hV sSemi
  have HR := Lib.hid hr
  have HST : Hid (ArmI pb A c T fin W (fun k => k < W.heap.size) [] (.slice none 0 0) s W) := ⟨hp, Fr.refl _ _, Rw.nil_ _ _ (fun _ h => h), hpb, hpb⟩
  clear hr H1 H2 hp
  go_enter Try.func79, Try.ntmps79
  go_wp2
  go_loopw [5, 6] (fun v _ wx => ∃ (m : Nat) (xs : List EC) (s' : PS), m ≤ n + 1 ∧ xs.length ≤ s'.i ∧ (lang T fin m).arms deep (xs.map (fun x : EC => x.t)) s' = some r ∧ ArmI pb A c T fin W (fun k => k < W.heap.size) xs v s' wx) (fun _ _ wx => T.length + 1 - posOf pb wx)
  case atStart => exact ⟨n + 1, [], s, Nat.le_refl _, Nat.zero_le _, HR.out, HST.out⟩
  case round =>
    clear HST HR
    obtain ⟨m, xs, s', hm, hxl, hl, hI⟩ := hrel
    obtain _ | m := m
    · exact absurd hl (by simp [lang, Lang.none_])
    have hl' : armsN T fin (lang T fin m) deep (xs.map (fun x : EC => x.t)) s' = some r := hl
    unfold armsN at hl'
    obtain ⟨B5, c5, rfl⟩ := hI.row.form
    have HI := Lib.hid hI
    obtain ⟨k, hk⟩ : ∃ k, xs.length = k := ⟨_, rfl⟩
    rw [hk] at HI hxl ⊢
    have HXL := Lib.hid hxl
    have HK := Lib.hid hk
    obtain ⟨c0, c1, c2, c3, c4⟩ := hI.p.cells
    by_cases he : s'.e = 0
    rotate_left
    · rw [if_neg he] at hl'
      have HRE := Lib.hid (Option.some.inj hl')
      have hd : (s'.e == 0) = false := by simpa using he
      clear hl' hl hI hk hxl he
      go_wp2
      go_ret
      have hre := HRE.out
      refine ⟨B5, c5, ?_, ?_, ?_, HI.out.fr⟩
      · rw [← hre, List.length_map, HK.out]; rfl
      · rw [← hre]; exact HI.out.row.rdc HK.out
      · rw [← hre]; exact HI.out.p
    · rw [if_pos he] at hl'
      rw [he] at c3
      obtain ⟨q, hq, hl'⟩ := bind_inv hl'
      obtain ⟨cl, hcl, hl'⟩ := bind_inv hl'
      have HP2 := Lib.hid (HPL.out wr s' hI.p)
      obtain ⟨pl, hpl⟩ : ∃ pl, placeP T fin s' = pl := ⟨_, rfl⟩
      rw [hpl] at HP2 hcl
      have HS2 : Hid (∀ V, PAt pb A c T fin s' V → Calls Try.prog 10 #[.pointer (some ⟨pb, 0, none⟩), .int .i64 (deep : Int)] V (NEnd pb A c T fin V q)) := fun V hV => HEX.out m (by omega) deep _ V q (by omega) hq hV
      have HS3 : Hid (∀ V B d, PAt pb A c T fin q.2 V → ∀ S : Nat → Prop, (∀ k, S k → k < V.heap.size) → S pb → RdN S V B d [q.1] → Calls Try.prog 65 #[.pointer (some ⟨pb, 0, none⟩), .agg #[.slice B 1 d, .slice none 0 0, .slice none 0 0, .string ⟨#[]⟩, .int .i64 pl], .int .i64 (deep : Int)] V
          fun e w' => ∃ x : EC, x.t = cl.1 ∧ e = .returned (.agg #[.slice x.A x.t.patterns.length x.c, .slice x.B x.t.guards.length x.d, .slice x.C x.t.body.length x.e, .string ⟨x.t.name.toArray⟩, .int .i64 x.t.at_]) ∧ x.Ok S w' ∧ PAt pb A c T fin cl.2 w' ∧ PFr pb V w') := fun V B d hV S h1 h2 h3 => HTL.out m (by omega) deep [q.1] [] pl B d q.2 V cl (by omega) hcl hV S h1 h2 h3
      have HM : Hid (s'.i ≤ cl.2.i) := Nat.le_trans ((lang_mono T fin m).expr _ _ _ hq).i ((lang_mono T fin m).tail _ _ _ _ _ _ hcl).i
      have HLL := Lib.hid hl'
      have HOLD : Hid (∀ q, (Value.slice B5 k c5).ownBlock = some q → q < wr.heap.size) := fun q hq => by have := (HI.out.row.own.lt q hq).2; exact this
      clear hl' hl hI hk hxl he hq hcl hpl
      go_upto_region 4 with (go_at_call 20; refine HP2.out.mono ?_; rintro e V1 ⟨rfl, hb1⟩)
      have hI1 := (HI.out.keep hb1).more (.cells #[.slice none 0 0, .slice none 0 0, .slice none 0 0, .string ⟨#[]⟩, .int .i64 pl] 67)
      have hB1 : CBx (V1.alloc (.cells #[.slice none 0 0, .slice none 0 0, .slice none 0 0, .string ⟨#[]⟩, .int .i64 pl] 67)) V1.heap.size ⟨.mk [] [] [] [] pl, none, 0, none, 0, none, 0⟩ := Blk.new _ _ _
      have hsz1 : wr.heap.size ≤ V1.heap.size := hb1.size
      have hW1 : W.heap.size ≤ wr.heap.size := HI.out.fr.size
      obtain ⟨g, hg⟩ : ∃ g, V1.heap.size = g := ⟨_, rfl⟩
      rw [hg] at hI1 hB1 hsz1 ⊢
      have HGW : Hid (W.heap.size ≤ g) := Nat.le_trans hW1 hsz1
      have HGO : Hid (∀ q, (Value.slice B5 k c5).ownBlock = some q → q ≤ g) := fun q hq => by have := HOLD.out q hq; omega
      refine wp_world (fun V => ArmI pb A c T fin W (fun k => k < W.heap.size ∨ k = g) xs (.slice B5 k c5) s' V ∧ CBx V g ⟨.mk [] [] [] [] pl, none, 0, none, 0, none, 0⟩) ⟨hI1, hB1⟩ ?_
      clear hI1 hB1 hsz1 hW1 hg hb1 HP2 HOLD c0 c1 c2 c3 c4
      rintro V2 ⟨hI2, hB2⟩
      have HI2 := Lib.hid hI2
      have HB2 := Lib.hid hB2
      have hglt := hB2.lt
      clear hI2 hB2
      go_upto_region 5 with (go_at_call 10; refine (HS2.out _ HI2.out.p).mono ?_; rintro e V3 ⟨x, hx, rfl, hok, hp3, hf3⟩; replace hx := Lib.hid hx; have hI3 := HI2.out.act hp3 hf3; have hB3 : CBx V3 g ⟨.mk [] [] [] [] pl, none, 0, none, 0, none, 0⟩ := hf3.blk HB2.out (by have := HGW.out; have := HI2.out.lt; show ¬ g = pb; omega); have hlt3 := hB3.lt; obtain ⟨a0, a1, a2, a3, a4, f0, f1, f2, f3, f4⟩ := hB3.facts)
      have hx3 : x.Ok (fun k => k ≤ g) V3 := hok.move (.sub_ fun k _ hk => by have h9 : k ≤ g := hk; show k < V2.heap.size; omega)
      have hS := setC_fr V3 g 0 (.slice (some ⟨V3.heap.size, 0, none⟩) 1 1)
      have hsz := size_setCell V3 ⟨g, 0, none⟩ (.slice (some ⟨V3.heap.size, 0, none⟩) 1 1)
      have hx4 : x.Ok (fun k => k ≤ g) (V3.setCell ⟨g, 0, none⟩ (.slice (some ⟨V3.heap.size, 0, none⟩) 1 1)) := hx3.move (.of_fr hS (fun k hk => by have h9 : k = g := hk; show k ≤ g; omega) fun _ _ h => h)
      have hrd4 := one_ok hx4 (by show ¬ _ ≤ g; omega) (cs := (enL [x]).toArray) rfl
      rw [hsz] at hrd4
      have hB4 : CBx ((V3.setCell ⟨g, 0, none⟩ (.slice (some ⟨V3.heap.size, 0, none⟩) 1 1)).alloc (.cells (enL [x]).toArray 26)) g ⟨.mk [x.t] [] [] [] pl, some ⟨V3.heap.size, 0, none⟩, 1, none, 0, none, 0⟩ := (hB3.set_ 0 _).alloc _
      have hI4 := (hI3.box hS HGW.out (.inr rfl)).keep (below_alloc (V3.setCell ⟨g, 0, none⟩ (.slice (some ⟨V3.heap.size, 0, none⟩) 1 1)) (.cells (enL [x]).toArray 26))
      obtain ⟨gk, hgk⟩ : ∃ gk, V3.heap.size = gk := ⟨_, rfl⟩
      rw [hgk] at hrd4 hB4 hI4 ⊢
      refine wp_world (fun V => ArmI pb A c T fin W (fun k => k < W.heap.size ∨ k = g) xs (.slice B5 k c5) q.2 V ∧ CBx V g ⟨.mk [x.t] [] [] [] pl, some ⟨gk, 0, none⟩, 1, none, 0, none, 0⟩ ∧ RdN (fun k => k ≤ g) V (some ⟨gk, 0, none⟩) 1 [x.t]) ⟨hI4, hB4, hrd4⟩ ?_
      clear hrd4 hB4 hI4 hgk hx4 hsz hS hx3 a0 a1 a2 a3 a4 f0 f1 f2 f3 f4 hlt3 hB3 hI3 hp3 hf3 hok HS2 HI2 HB2 hglt
      rintro V5 ⟨hI5, hB5, hrd5⟩
      rw [hx.out] at hrd5
      have HT5 := Lib.hid (HS3.out V5 (some ⟨gk, 0, none⟩) 1 hI5.p (fun k => k ≤ g) (fun k hk => by have h9 : k ≤ g := hk; have := hB5.lt; omega) (by have := HGW.out; have := hI5.lt; show pb ≤ g; omega) hrd5)
      obtain ⟨a0, a1, a2, a3, a4, _⟩ := hB5.facts
      simp only [CD.patterns, CD.guards, CD.body, CD.name, CD.at_, List.length_nil, List.length_singleton] at a0 a1 a2 a3 a4
      have HI5 := Lib.hid hI5
      have hk6 : k ≤ 16384 := by have := HXL.out; have := HI.out.p.hi; omega
      clear hI5 hB5 hrd5 HS3
      go_upto_region 6 with (first
        | (go_at_call 65; go_loud (refine HT5.out.mono ?_; rintro e V6 ⟨y, hy, rfl, hok, hp6, hf6⟩; replace hy := Lib.hid hy; have HI6 := Lib.hid (HI5.out.act hp6 hf6); have HOF := Lib.hid hok; have HO6 := Lib.hid (fun o => arm_own (o := o) HI6.out.row HK.out); have hb6 : W.heap.size ≤ V6.heap.size := HI6.out.fr.size))
        | (at_builtin; refine wpList_app clauseT rfl (.tmp 20) (.tmp 25) rfl W.heap.size (.slice B5 k c5) k (ecL xs) rfl (HO6.out _) (some ⟨V6.heap.size, 0, none⟩) 1 1 y.cells rfl rfl (cbx_one (Blk.new V6 _ _)) y.cells_one (by unfold maxLen; omega) (by omega) (Nat.le_trans hb6 (below_alloc _ _).size) ?_; intro v' w' ho hg' hat))
      have hI7 := (HI6.out.push (x := y) (HOF.out.move (.sub_ fun k _ hk => by
        have h1 := HGW.out
        show k ≤ g
        rcases hk with hk | hk
        · rcases hk with hk | hk <;> omega
        · exact HGO.out k hk)) HK.out ho hg' hat).less (S' := fun k => k < W.heap.size) (fun k hk => .inl hk) HI6.out.lt
      refine wp_world (fun V => ArmI pb A c T fin W (fun k => k < W.heap.size) (xs ++ [y]) v' cl.2 V) hI7 ?_
      clear hI7 ho hg' hat hb6 HO6 HOF HI6 hok hp6 hf6 HI5 a0 a1 a2 a3 a4 HT5
      intro V8 hI8
      have HI8 := Lib.hid hI8
      cases hb : isP T sSemi cl.2 with
      | true =>
        have hl' := HLL.out
        rw [hb, if_pos rfl] at hl'
        have HL9 : Hid ((lang T fin m).arms deep ((xs ++ [y]).map (fun x : EC => x.t)) (nextP cl.2) = some r) := by rw [List.map_append, List.map_singleton, hy.out]; exact hl'
        have HT2 : Hid (∀ V, PAt pb A c T fin cl.2 V → Calls Try.prog 21 #[.pointer (some ⟨pb, 0, none⟩), .string ⟨#[59]⟩] V fun r w' => r = .returned (.bool true) ∧ PAt pb A c T fin (nextP cl.2) w' ∧ PFr pb V w') := fun V hV => by
          have := HTK.out V cl.2 hV
          rw [hb, if_pos rfl] at this
          exact this
        have HLT := Lib.hid (isP_lt hb).2
        clear hl' hb hI8 HLL
        go_wp2_with (go_at_call 21; refine (HT2.out _ HI8.out.p).mono ?_; rintro e V9 ⟨rfl, hp9, hf9⟩)
        have hI9 := HI8.out.act hp9 hf9
        go_roundw
        case rel => exact ⟨m, xs ++ [y], nextP cl.2, by omega, by rw [List.length_append, HK.out]; have := HM.out; have := HXL.out; simp only [nextP, List.length_cons, List.length_nil]; omega, HL9.out, hI9⟩
        case measure =>
          refine Nat.lt_of_le_of_lt (Nat.le_of_eq (congrArg (T.length + 1 - ·) (posOf_eq hI9.p))) ?_
          rw [posOf_eq HI.out.p]
          have h2 := HM.out
          have h3 := HLT.out
          simp only [nextP]
          omega
      | false =>
        have hl' := HLL.out
        rw [hb, if_neg (by simp)] at hl'
        have HRE := Lib.hid (Option.some.inj hl')
        have HT2 : Hid (∀ V, PAt pb A c T fin cl.2 V → Calls Try.prog 21 #[.pointer (some ⟨pb, 0, none⟩), .string ⟨#[59]⟩] V fun r w' => r = .returned (.bool false) ∧ PAt pb A c T fin cl.2 w' ∧ PFr pb V w') := fun V hV => by
          have := HTK.out V cl.2 hV
          rw [hb, if_neg (by simp)] at this
          exact this
        obtain ⟨B7, d7, hv7⟩ := hI8.row.form
        have hlen7 : (xs ++ [y]).length = k + 1 := by rw [List.length_append, HK.out]; rfl
        rw [hlen7] at hv7
        clear hl' hb hI8 HLL
        go_wp2_with (go_at_call 21; refine (HT2.out _ HI8.out.p).mono ?_; rintro e V9 ⟨rfl, hp9, hf9⟩)
        have hI9 := HI8.out.act hp9 hf9
        rw [hv7] at hI9
        go_ret
        have hre := HRE.out
        rw [← hy.out] at hre
        have hlr : r.1.length = k + 1 := by rw [← hre]; simp [HK.out]
        refine ⟨B7, d7, ?_, ?_, ?_, hI9.fr⟩
        · rw [hlr]; rfl
        · rw [← hre]
          have := hI9.row.rdc hlen7
          rw [List.map_append, List.map_singleton] at this
          exact this
        · rw [← hre]; exact hI9.p

end
end
end Go.Proofs.Ythhindnjnijglaa
