/- Layer 11: the walk of prim: fun. -/
import Derived.Test.YthhindnjnijglaaPaQ
namespace Go.Proofs.Ythhindnjnijglaa
open Go.RowKit
set_option linter.unusedVariables false

/-- A function without a name that is being made: its box, its row of clauses. -/
structure FunI (pb : Nat) (A : Option Addr) (c : Nat) (T : List Tok) (fin : Nat) (W : World) (g : Nat) (at_ : Int) (xs : List EC) (v : Value) (s : PS) (V : World) : Prop where
  zi : ZI pb A c T fin W s V
  n : Blk V g 26 #[.int .i64 13, .int .i64 0, .string ⟨#[]⟩, .int .i64 at_, .slice none 0 0, v, .slice none 0 0]
  row : Rw eltC (W.heap.size + 1) (fun k => k ≤ W.heap.size ∨ k = g) xs v V
  g : W.heap.size < g
section
variable {pb : Nat} {A : Option Addr} {c : Nat} {T : List Tok} {fin : Nat} {W : World} {g : Nat} {at_ : Int} {xs : List EC} {v v' : Value} {s s' : PS} {V V' : World}
theorem FunI.start (h : ZI pb A c T fin W s V) : FunI pb A c T fin W V.heap.size at_ [] (.slice none 0 0) s (V.alloc (.cells #[.int .i64 13, .int .i64 0, .string ⟨#[]⟩, .int .i64 at_, .slice none 0 0, .slice none 0 0, .slice none 0 0] 26)) := by
  have h1 := h.lt
  have h2 : (V.alloc (.cells #[.int .i64 13, .int .i64 0, .string ⟨#[]⟩, .int .i64 at_, .slice none 0 0, .slice none 0 0, .slice none 0 0] 26)).heap.size = V.heap.size + 1 := by simp
  exact ⟨h.keep (below_alloc _ _), Blk.new _ _ _, Rw.nil_ _ _ (fun k hk => by rcases hk with hk | hk <;> omega), h1⟩
theorem FunI.act (h : FunI pb A c T fin W g at_ xs v s V) (hp : PAt pb A c T fin s' V') (hf : PFr pb V V') : FunI pb A c T fin W g at_ xs v s' V' := by
  have h1 := h.g
  have h2 := h.zi.pb
  exact ⟨h.zi.act hp hf, hf.blk h.n (by show ¬ g = pb; omega), h.row.fr hf (fun k hk => .inl (by have h9 : k = pb := hk; omega)), h.g⟩
theorem FunI.keep (h : FunI pb A c T fin W g at_ xs v s V) (hb : Below V.heap.size V V') : FunI pb A c T fin W g at_ xs v s V' := ⟨h.zi.keep hb, h.n.keep hb, h.row.below hb, h.g⟩
theorem FunI.off (h : FunI pb A c T fin W g at_ xs v s V) {x : EC} (hx : x.Ok (fun k => k < V.heap.size) V') : x.Ok (fun k => (k ≤ W.heap.size ∨ k = g) ∨ v.ownBlock = some k) V' := h.row.off (x := x) hx
/-- Another clause: appended, and stored. -/
theorem FunI.push {x : EC} {V1 w' : World} (h : FunI pb A c T fin W g at_ xs v s V) (hb : Below V.heap.size V V1) (hx : x.Ok (fun k => (k ≤ W.heap.size ∨ k = g) ∨ v.ownBlock = some k) V1) {n : Nat} (hn : xs.length = n) (ho : w'.ownsRow (W.heap.size + 1) 67 5 v' (n + 1) (ecL xs ++ x.cells)) (hg : V1.grownBy w' v.ownBlock) (hv : v'.ownBlock = v.ownBlock ∨ v'.ownBlock = some V1.heap.size) :
    FunI pb A c T fin W g at_ (xs ++ [x]) v' s (w'.setCell ⟨g, 5, none⟩ v') := by
  have h1 := h.g
  have h2 := h.zi.pb
  have hF : Fr (fun k => v.ownBlock = some k) V1 w' := Fr.of_grown hg (fun k e _ => e)
  have hlo : ∀ k, v.ownBlock = some k → W.heap.size + 1 ≤ k ∧ k ≠ g := fun k hk => ⟨(h.row.own.lt k hk).1, fun e => h.row.apart k hk (.inr e)⟩
  have hR := (h.row.below hb).push (x := x) hx (by rw [hn]; exact ho) hg hv
  have hS := setC_fr w' g 5 v'
  have hz1 := h.zi.keep hb
  have hn1 : Blk w' g 26 #[.int .i64 13, .int .i64 0, .string ⟨#[]⟩, .int .i64 at_, .slice none 0 0, v, .slice none 0 0] := hF.blk (h.n.keep hb) (fun e => (hlo _ e).2 rfl)
  have hz2 : ZI pb A c T fin W s w' := ⟨hz1.p.far hF (fun e => by have := (hlo _ e).1; omega) (fun b o e e2 => by have := hz1.p.apart b o e; have := (hlo _ e2).1; omega), hz1.fr.trans hF (fun k hk e => by have := (hlo _ e).1; omega), hF.blk hz1.res (fun e => by have := (hlo _ e).1; omega), hz1.pb⟩
  exact ⟨⟨hz2.p.far hS (by show ¬ pb = g; omega) (fun b o e => by have := hz2.p.apart b o e; show ¬ b = g; omega), hz2.fr.trans hS (fun k hk e => by have h9 : k = g := e; omega), hS.blk hz2.res (by show ¬ W.heap.size = g; omega), h2⟩, hn1.set_ 5 v', hR.fr hS (fun k hk => .inr hk), h.g⟩
theorem FunI.bin {B : Option Addr} {d n : Nat} (h : FunI pb A c T fin W g at_ xs (.slice B n d) s V) (hn : xs.length = n) {l : List CD} (hl : xs.map (fun x : EC => x.t) = l) : BinI pb A c T fin W g ⟨.mk 13 0 [] at_ [] l [], none, 0, B, d, none, 0⟩ s V := by
  subst hl
  refine ⟨h.zi.p, h.zi.fr, h.zi.res, ?_, ⟨RdN.nil_ _ _ _ (Nat.zero_le _), h.row.rdc hn, RdN.nil_ _ _ _ (Nat.zero_le _)⟩, h.g, h.zi.pb⟩
  have := h.n
  rw [← hn] at this
  show Blk V g 26 #[.int .i64 13, .int .i64 0, .string ⟨#[]⟩, .int .i64 at_, .slice none 0 0, .slice B (xs.map (fun x : EC => x.t)).length d, .slice none 0 0]
  rw [List.length_map]
  exact this
end
section
variable {pb : Nat} {A : Option Addr} {c : Nat} {T : List Tok} {fin : Nat} {W : World}

set_option maxRecDepth 100000 in
set_option maxHeartbeats 8000000 in
theorem prim_fun {n : Nat} {deep : Nat} {s : PS} {r : ND × PS} {t : Tok} (HH : ∀ m, m ≤ n → HeadOk pb A c T fin m) (hdp : deep + (n + 1) ≤ deepB) (he : s.e = 0) (ht : T[s.i]? = some t) (hk : t.kind ≠ 1 ∧ t.kind ≠ 2 ∧ t.kind ≠ 3) (hb0 : isP T sOpen s = false) (hb1 : isP T sLc s = false) (hb2 : isP T sLb s = false) (hb3 : isP T sFun s = true) (hr : primW T fin (lang T fin n) deep s = some r) (hp : PAt pb A c T fin s W) :
    Calls Try.prog 77 #[.pointer (some ⟨pb, 0, none⟩), .int .i64 (deep : Int)] W (NEnd pb A c T fin W r) := by
  unfold primW at hr
  rw [hb0, if_neg (by simp), hb1, if_neg (by simp), hb2, if_neg (by simp), hb3, if_pos rfl] at hr
  have hdq : deep + (n + 1) ≤ 4611686018427387904 := hdp
  have q9 : IntKind.i64.wrap ((deep : Int) + 1) = ((deep + 1 : Nat) : Int) := by rw [IntKind.wrap_i64]; omega
  obtain ⟨pl, hpl⟩ : ∃ pl, placeP T fin s = pl := ⟨_, rfl⟩
  have hpt : pl = ((t.at_ : Nat) : Int) := by rw [← hpl]; unfold placeP; rw [ht]
  try rw [hpl] at hr
  obtain ⟨q, hq, hl⟩ := bind_inv hr
  have HRE := Lib.hid (Option.some.inj hl)
  have HQ := Lib.hid hq
  have HHD := Lib.hid HH
  have HME : Hid (∀ V, PAt pb A c T fin q.2 V → Calls Try.prog 26 #[.pointer (some ⟨pb, 0, none⟩), .string ⟨#[101, 110, 100]⟩] V fun r w' => r = .returned (.tuple #[]) ∧ PAt pb A c T fin (mustP T fin sEnd q.2) w' ∧ PFr pb V w') := fun V hV => must_any hV sEnd
  have HPLL : Hid (∀ V s, PAt pb A c T fin s V → Calls Try.prog 20 #[.pointer (some ⟨pb, 0, none⟩)] V fun e w' => e = .returned (.int .i64 (placeP T fin s)) ∧ Below V.heap.size V w') := fun V s hV => place_any hV
  have HTK : Hid (∀ V s, PAt pb A c T fin s V → Calls Try.prog 21 #[.pointer (some ⟨pb, 0, none⟩), .string ⟨#[59]⟩] V fun r w' => r = .returned (.bool (isP T sSemi s)) ∧ PAt pb A c T fin (if isP T sSemi s = true then nextP s else s) w' ∧ PFr pb V w') := fun V s hV => take_any hV sSemi
  clear hq hl HH
  have HF0 : Hid (∀ V, PAt pb A c T fin s V → Calls Try.prog 21 #[.pointer (some ⟨pb, 0, none⟩), .string ⟨#[40]⟩] V fun r w' => r = .returned (.bool false) ∧ PAt pb A c T fin s w' ∧ PFr pb V w') := fun V hV => by
    have := take_any hV sOpen
    rw [hb0, if_neg (by simp)] at this
    exact this
  have HF1 : Hid (∀ V, PAt pb A c T fin s V → Calls Try.prog 21 #[.pointer (some ⟨pb, 0, none⟩), .string ⟨#[123]⟩] V fun r w' => r = .returned (.bool false) ∧ PAt pb A c T fin s w' ∧ PFr pb V w') := fun V hV => by
    have := take_any hV sLc
    rw [hb1, if_neg (by simp)] at this
    exact this
  have HF2 : Hid (∀ V, PAt pb A c T fin s V → Calls Try.prog 21 #[.pointer (some ⟨pb, 0, none⟩), .string ⟨#[91]⟩] V fun r w' => r = .returned (.bool false) ∧ PAt pb A c T fin s w' ∧ PFr pb V w') := fun V hV => by
    have := take_any hV sLb
    rw [hb2, if_neg (by simp)] at this
    exact this
  have HF3 : Hid (∀ V, PAt pb A c T fin s V → Calls Try.prog 21 #[.pointer (some ⟨pb, 0, none⟩), .string ⟨#[102, 117, 110]⟩] V fun r w' => r = .returned (.bool true) ∧ PAt pb A c T fin (nextP s) w' ∧ PFr pb V w') := fun V hV => by
    have := take_any hV sFun
    rw [hb3, if_pos rfl] at this
    exact this
  clear hb0 hb1 hb2 hb3
  have HKD := Lib.hid hk
  clear hk
  have HPT := Lib.hid hpt
  clear hpt hpl
  have HST := Lib.hid (ZI.start hp)
  have hlen := hp.len
  have HPL : Hid (∀ V, PAt pb A c T fin s V → Calls Try.prog 20 #[.pointer (some ⟨pb, 0, none⟩)] V fun e w' => e = .returned (.int .i64 ((t.at_ : Nat) : Int)) ∧ Below V.heap.size V w') := fun V hV => by
    have h9 : placeP T fin s = ((t.at_ : Nat) : Int) := by unfold placeP; rw [ht]
    rw [← h9]
    exact place_any hV
  obtain ⟨hi, hte⟩ := List.getElem?_eq_some_iff.1 ht
  have HTE := Lib.hid hte
  have hd : decide (T.length ≤ s.i) = false := by simpa using hi
  have HE := Lib.hid he
  clear hr he hp ht hte
  go_enter Try.func77, Try.ntmps77
  go_upto_region 1 with (fail)
  refine wp_world (fun V => ZI pb A c T fin W s V) HST.out ?_
  clear HST
  intro V0 hI0
  obtain ⟨c0, c1, c2, c3, c4⟩ := hI0.p.cells
  rw [HE.out] at c3
  go_upto_region 4 with (go_at_call 20; refine (HPL.out _ hI0.p).mono ?_; rintro e V1 ⟨rfl, hb1⟩)
  refine wp_world (fun V => ZI pb A c T fin W s V) (hI0.keep hb1) ?_
  clear hI0 hb1 c0 c1 c2 c3 c4 HPL
  intro V2 hI2
  obtain ⟨c0, c1, c2, c3, c4⟩ := hI2.p.cells
  have HI2 := Lib.hid hI2
  clear hI2
  go_quiet (fail)
  go_wp2
  refine wp_world (fun V => ZI pb A c T fin W s V) (HI2.out.keep (below_drewN (Below.refl _ _) _)) ?_
  clear HI2 c0 c1 c2 c3 c4
  intro V3 hI3
  obtain ⟨c0, c1, c2, c3, c4⟩ := hI3.p.cells
  have q1 : (0 : Int) ≤ (s.i : Int) := by omega
  have q2 : (s.i : Int) < (T.length : Int) := by omega
  have htk := hI3.p.toks.at_ hi
  rw [HTE.out] at htk
  obtain ⟨b, o, hAe, hlt, t0, t1, t2, t3, t4⟩ := htk
  rw [hAe] at c0
  have HCV : Hid (V3.cell? ⟨pb, 0, none⟩ = some (.slice (some ⟨b, o, none⟩) T.length c) ∧ V3.cell? ⟨pb, 1, none⟩ = some (.int .i64 (s.i : Int)) ∧ pb < V3.heap.size ∧ V3.cell? ⟨b, o + s.i * 5, none⟩ = some (.int .i64 t.kind) ∧ V3.cell? ⟨b, o + s.i * 5 + 1, none⟩ = some (.int .i64 t.int) ∧ V3.cell? ⟨b, o + s.i * 5 + 2, none⟩ = some (.string ⟨t.text.toArray⟩) ∧ V3.cell? ⟨b, o + s.i * 5 + 3, none⟩ = some (.int .i64 ((t.at_ : Nat) : Int)) ∧ V3.cell? ⟨b, o + s.i * 5 + 4, none⟩ = some (.int .i64 ((t.fin : Nat) : Int)) ∧ b < V3.heap.size) := ⟨c0, c1, hI3.p.obj.lt, t0, t1, t2, t3, t4, hlt⟩
  have HI3 := Lib.hid hI3
  have HAE := Lib.hid hAe
  clear hI3 c0 c1 c2 c3 c4 t0 t1 t2 t3 t4 hlt hAe
  refine wp_region_W 11 (fun X => Below V3.heap.size V3 X) (by kernel_rfl) ?_ (fun hS0 => ?_)
  · exact (Below.refl _ _).drew
  (refine wpAnyW_take (i := 0) (v := ?_) rfl (by kernel_rfl) (by kernel_rfl) (by kernel_rfl) (by kernel_rfl) (fun _ _ _ h => h) (Or.inl ⟨by kernel_rfl, ?_⟩) (by assumption) ?_; rotate_left; focus (intro V9 hS9; go_simp; (try (with_reducible rfl)); done))
  try simp only [Act.put, List.getElem_toArray, List.getElem_cons_zero, List.setIfInBounds_toArray, List.set_cons_succ, List.set_cons_zero]
  (refine wpAnyW_take (i := 1) (v := ?_) rfl (by kernel_rfl) (by kernel_rfl) (by kernel_rfl) (by kernel_rfl) (fun _ _ _ h => h) (Or.inl ⟨by kernel_rfl, ?_⟩) (by assumption) ?_; rotate_left; focus (intro V9 hS9; go_simp; (try (with_reducible rfl)); done))
  try simp only [Act.put, List.getElem_toArray, List.getElem_cons_succ, List.getElem_cons_zero, List.setIfInBounds_toArray, List.set_cons_succ, List.set_cons_zero]
  (refine wpAnyW_take (i := 2) (v := ?_) rfl (by kernel_rfl) (by kernel_rfl) (by kernel_rfl) (by kernel_rfl) (fun _ _ _ h => h) (Or.inl ⟨by kernel_rfl, ?_⟩) (by assumption) ?_; rotate_left; focus (intro V9 hS9; go_simp; (try (with_reducible rfl)); done))
  try simp only [Act.put, List.getElem_toArray, List.getElem_cons_succ, List.getElem_cons_zero, List.setIfInBounds_toArray, List.set_cons_succ, List.set_cons_zero]
  (refine wpAnyW_take (i := 3) (v := ?_) rfl (by kernel_rfl) (by kernel_rfl) (by kernel_rfl) (by kernel_rfl) (fun _ _ _ h => h) (Or.inl ⟨by kernel_rfl, ?_⟩) (by assumption) ?_; rotate_left; focus (intro V9 hS9; have c0 := (hS9.cell HCV.out.2.2.1).trans HCV.out.1; go_simp; (try (with_reducible rfl)); done))
  try simp only [Act.put, List.getElem_toArray, List.getElem_cons_succ, List.getElem_cons_zero, List.setIfInBounds_toArray, List.set_cons_succ, List.set_cons_zero]
  (refine wpAnyW_take (i := 4) (v := ?_) rfl (by kernel_rfl) (by kernel_rfl) (by kernel_rfl) (by kernel_rfl) (fun _ _ _ h => h) (Or.inl ⟨by kernel_rfl, ?_⟩) (by assumption) ?_; rotate_left; focus (intro V9 hS9; go_simp; (try (with_reducible rfl)); done))
  try simp only [Act.put, List.getElem_toArray, List.getElem_cons_succ, List.getElem_cons_zero, List.setIfInBounds_toArray, List.set_cons_succ, List.set_cons_zero]
  (refine wpAnyW_take (i := 5) (v := ?_) rfl (by kernel_rfl) (by kernel_rfl) (by kernel_rfl) (by kernel_rfl) (fun _ _ _ h => h) (Or.inl ⟨by kernel_rfl, ?_⟩) (by assumption) ?_; rotate_left; focus (intro V9 hS9; go_simp; (try (with_reducible rfl)); done))
  try simp only [Act.put, List.getElem_toArray, List.getElem_cons_succ, List.getElem_cons_zero, List.setIfInBounds_toArray, List.set_cons_succ, List.set_cons_zero]
  (refine wpAnyW_take (i := 6) (v := ?_) rfl (by kernel_rfl) (by kernel_rfl) (by kernel_rfl) (by kernel_rfl) (fun _ _ _ h => h) (Or.inl ⟨by kernel_rfl, ?_⟩) (by assumption) ?_; rotate_left; focus (intro V9 hS9; go_simp; (try (with_reducible rfl)); done))
  try simp only [Act.put, List.getElem_toArray, List.getElem_cons_succ, List.getElem_cons_zero, List.setIfInBounds_toArray, List.set_cons_succ, List.set_cons_zero]
  (refine wpAnyW_take (i := 7) (v := ?_) rfl (by kernel_rfl) (by kernel_rfl) (by kernel_rfl) (by kernel_rfl) (fun _ _ _ h => h) (Or.inl ⟨by kernel_rfl, ?_⟩) (by assumption) ?_; rotate_left; focus (intro V9 hS9; have c1 := (hS9.cell HCV.out.2.2.1).trans HCV.out.2.1; go_simp; (try (with_reducible rfl)); done))
  try simp only [Act.put, List.getElem_toArray, List.getElem_cons_succ, List.getElem_cons_zero, List.setIfInBounds_toArray, List.set_cons_succ, List.set_cons_zero]
  (refine wpAnyW_take (i := 8) (v := ?_) rfl (by kernel_rfl) (by kernel_rfl) (by kernel_rfl) (by kernel_rfl) (fun _ _ _ h => h) (Or.inl ⟨by kernel_rfl, ?_⟩) (by assumption) ?_; rotate_left; focus (intro V9 hS9; go_simp; (try (with_reducible rfl)); done))
  try simp only [Act.put, List.getElem_toArray, List.getElem_cons_succ, List.getElem_cons_zero, List.setIfInBounds_toArray, List.set_cons_succ, List.set_cons_zero]
  (refine wpAnyW_take (i := 9) (v := ?_) rfl (by kernel_rfl) (by kernel_rfl) (by kernel_rfl) (by kernel_rfl) (fun _ _ _ h => h) (Or.inl ⟨by kernel_rfl, ?_⟩) (by assumption) ?_; rotate_left; focus (intro V9 hS9; obtain ⟨_, _, _, t0, t1, t2, t3, t4, hlt⟩ := HCV.out; have t0 := (hS9.cell hlt).trans t0; have t1 := (hS9.cell hlt).trans t1; have t2 := (hS9.cell hlt).trans t2; have t3 := (hS9.cell hlt).trans t3; have t4 := (hS9.cell hlt).trans t4; go_simp; (try (with_reducible rfl)); done))
  try simp only [Act.put, List.getElem_toArray, List.getElem_cons_succ, List.getElem_cons_zero, List.setIfInBounds_toArray, List.set_cons_succ, List.set_cons_zero]
  refine wpAnyW_ready (rs := [10]) (by kernel_rfl) (by simp) ?_
  refine AllReadyW.cons rfl (fun K hK => ?_) AllReadyW.nil
  go_simp
  refine hK.out _ _ ((Below.refl _ _).drew.alloc (Nat.le_refl _) _) (fun _ => ?_)
  clear hK K
  try simp only [Act.put, List.getElem_toArray, List.getElem_cons_succ, List.getElem_cons_zero, List.setIfInBounds_toArray, List.set_cons_succ, List.set_cons_zero]
  refine wpAnyW_ready (rs := [11]) (by kernel_rfl) (by simp) ?_
  refine AllReadyW.consE rfl (by kernel_rfl) (fun K hK => ?_) AllReadyW.nil
  go_simp
  refine hK.out _ _ ?_
  clear hK K
  refine wpAnyW_done (by kernel_rfl) ?_ _
  go_upto_region 8 with (fail)
  refine wp_world (fun X => Blk X V3.heap.size 80 (tokC t) ∧ ZI pb A c T fin W s X) ?_ ?_
  · exact ⟨(Blk.new V3 _ (tokC t)), (HI3.out.tok t).keep (below_drewN (Below.refl _ _) 1)⟩
  have HGP := Lib.hid HCV.out.2.2.1
  clear HI3 HCV hS0 q1 q2 hd
  obtain ⟨g6, hg6⟩ : ∃ g6, V3.heap.size = g6 := ⟨_, rfl⟩
  rw [hg6] at HGP ⊢
  clear hg6
  rintro V4 ⟨hT4, hI4⟩
  have x0 : V4.cell? ⟨g6, 0, none⟩ = some (.int .i64 t.kind) := hT4.cell 0
  have x1 : V4.cell? ⟨g6, 1, none⟩ = some (.int .i64 t.int) := hT4.cell 1
  have x2 : V4.cell? ⟨g6, 2, none⟩ = some (.string ⟨t.text.toArray⟩) := hT4.cell 2
  have d1 : (t.kind == 1) = false := by have := HKD.out.1; simpa using this
  have d2 : (t.kind == 2) = false := by have := HKD.out.2.1; simpa using this
  have d3 : (t.kind == 3) = false := by have := HKD.out.2.2; simpa using this
  go_upto_region 18 with (fail)
  refine wp_world (fun X => ZI pb A c T fin W s X) hI4 ?_
  clear hT4 hI4 x0 x1 x2 d1 d2 d3 HTE HAE HGP hi HKD
  rw [← HPT.out]
  clear HPT
  intro V5 hI5
  go_upto_region 31 with (first
    | (go_at_call 21; with_reducible refine (HF0.out _ hI5.p).mono ?_; rintro e Vc0 ⟨rfl, hpc0, hfc0⟩)
    | (go_at_call 21; with_reducible refine (HF1.out _ hpc0).mono ?_; rintro e Vc1 ⟨rfl, hpc1, hfc1⟩)
    | (go_at_call 21; with_reducible refine (HF2.out _ hpc1).mono ?_; rintro e Vc2 ⟨rfl, hpc2, hfc2⟩)
    | (go_at_call 21; with_reducible refine (HF3.out _ hpc2).mono ?_; rintro e Vc3 ⟨rfl, hpc3, hfc3⟩))
  refine wp_world (fun X => ZI pb A c T fin W (nextP s) X) ((((hI5.act hpc0 hfc0).act hpc1 hfc1).act hpc2 hfc2).act hpc3 hfc3) ?_
  clear hI5 hpc0 hfc0 HF0 hpc1 hfc1 HF1 hpc2 hfc2 HF2 hpc3 hfc3 HF3
  intro V6 hI
  go_upto_region 32 with (fail)
  have hI8 := FunI.start (at_ := pl) hI
  obtain ⟨g, hg⟩ : ∃ g, V6.heap.size = g := ⟨_, rfl⟩
  rw [hg] at hI8 ⊢
  refine wp_world (fun V => FunI pb A c T fin W g pl [] (.slice none 0 0) (nextP s) V) hI8 ?_
  clear hI8 hI hg
  intro V8 hI8
  go_loopw [] (fun wx => ∃ (m : Nat) (xs : List EC) (v : Value) (s' : PS), m ≤ n ∧ xs.length ≤ s'.i ∧ (lang T fin m).funs (deep + 1) (xs.map (fun x : EC => x.t)) s' = some q ∧ FunI pb A c T fin W g pl xs v s' wx) (fun wx => T.length + 1 - posOf pb wx)
  case atStart => exact ⟨n, [], _, nextP s, Nat.le_refl _, Nat.zero_le _, HQ.out, hI8⟩
  case round =>
    clear hI8 HQ
    obtain ⟨m, xs, v, s', hm, hxl, hl, hI⟩ := hrel
    obtain _ | m := m
    · exact absurd hl (by simp [lang, Lang.none_])
    have hl' : funsN T fin (lang T fin m) (deep + 1) (xs.map (fun x : EC => x.t)) s' = some q := hl
    unfold funsN at hl'
    obtain ⟨B5, c5, rfl⟩ := hI.row.form
    have HI := Lib.hid hI
    obtain ⟨k, hk⟩ : ∃ k, xs.length = k := ⟨_, rfl⟩
    rw [hk] at HI hxl
    have HXL := Lib.hid hxl
    have HK := Lib.hid hk
    obtain ⟨c0, c1, c2, c3, c4⟩ := hI.zi.p.cells
    by_cases he : s'.e = 0
    rotate_left
    · rw [if_neg he] at hl'
      have HQ9 := Lib.hid (Option.some.inj hl')
      have hd : (s'.e == 0) = false := by simpa using he
      clear hl' hl hI hk hxl he
      go_upto_region 35 with (fail)
      have hbin := HI.out.bin HK.out (l := q.1) (by have := congrArg Prod.fst HQ9.out; exact this)
      obtain ⟨stq, hstq⟩ : ∃ stq, s' = stq := ⟨_, rfl⟩
      have HST9 : Hid (stq = q.2) := by rw [← hstq]; exact congrArg Prod.snd HQ9.out
      rw [hstq] at hbin
      refine wp_world (fun V => BinI pb A c T fin W g ⟨.mk 13 0 [] pl [] q.1 [], none, 0, B5, c5, none, 0⟩ stq V) hbin ?_
      clear hbin HI c0 c1 c2 c3 c4 HTK HPLL HHD
      intro V8 hI8
      go_upto_region 36 with (go_at_call 26; refine (HME.out _ (by rw [← HST9.out]; exact hI8.p)).mono ?_; rintro e V7 ⟨rfl, hp7, hf7⟩)
      refine wp_world (fun V => BinI pb A c T fin W g ⟨.mk 13 0 [] pl [] q.1 [], none, 0, B5, c5, none, 0⟩ (mustP T fin sEnd q.2) V) (hI8.act hp7 hf7) ?_
      clear hI8 hp7 hf7 HME
      intro V9 hI
      obtain ⟨y, hy⟩ : ∃ y : EN, (⟨.mk 13 0 [] pl [] q.1 [], none, 0, B5, c5, none, 0⟩ : EN) = y := ⟨_, rfl⟩
      have HY9 : Hid (y.t = r.1 ∧ (mustP T fin sEnd q.2) = r.2) := by rw [← hy]; exact by rw [← HRE.out]; exact ⟨rfl, rfl⟩
      rw [hy] at hI
      clear hy
      obtain ⟨a0, a1, a2, a3, a4, a5, a6⟩ := hI.a.cells
      obtain ⟨z0, z1, z2, z3, z4, z5, z6, f0, f1, f2, f3, f4, f5, f6⟩ := zbx_facts hI.res
      go_wp2
      refine q_bp_world (fun V => NBx V W.heap.size y ∧ Fr (fun k => k = W.heap.size) V9 V) ⟨put7_blk hI.res _ _ _ _ _ _ _, put7_fr _ _ _ _ _ _ _ _ _⟩ ?_
      rintro V10 ⟨hB6, hF6⟩
      obtain ⟨x0, x1, x2, x3, x4, x5, x6⟩ := hB6.cells
      obtain ⟨e1, e2, e3⟩ := hI.fin_ hF6
      exact bodyPost_ret (v := .agg #[.int .i64 y.t.kind, .int .i64 y.t.int, .string ⟨y.t.name.toArray⟩, .int .i64 y.t.at_, .slice y.A y.t.kids.length y.c, .slice y.B y.t.clauses.length y.d, .slice y.C y.t.body.length y.e]) (by simp [results, Try.results77, go_sem, x0, x1, x2, x3, x4, x5, x6]) rfl ⟨y, HY9.out.1, rfl, e1, by rw [← HY9.out.2]; exact e2, e3⟩
    · rw [if_pos he] at hl'
      rw [he] at c3
      obtain ⟨cl, hcl, hl'⟩ := bind_inv hl'
      obtain ⟨pl2, hpl2⟩ : ∃ pl2, placeP T fin s' = pl2 := ⟨_, rfl⟩
      have HP2 : Hid (∀ V, PAt pb A c T fin s' V → Calls Try.prog 20 #[.pointer (some ⟨pb, 0, none⟩)] V fun e w' => e = .returned (.int .i64 pl2) ∧ Below V.heap.size V w') := fun V hV => by rw [← hpl2]; exact HPLL.out V s' hV
      rw [hpl2] at hcl
      have HS3 : Hid (∀ V, PAt pb A c T fin s' V → Calls Try.prog 51 #[.pointer (some ⟨pb, 0, none⟩), .agg #[.slice none 0 0, .slice none 0 0, .slice none 0 0, .string ⟨#[]⟩, .int .i64 pl2], .int .i64 (((deep + 1 : Nat) : Nat) : Int)] V (CEnd pb A c T fin V cl)) := fun V hV => HHD.out m (by omega) (deep + 1) [] pl2 _ V cl (by omega) hcl hV
      have HM : Hid (s'.i ≤ cl.2.i) := ((lang_mono T fin m).head _ _ _ _ _ hcl).i
      have HLL := Lib.hid hl'
      have hk6 : k ≤ 16384 := by have := hI.zi.p.hi; omega
      clear hl' hl hI hk hxl he hcl hpl2
      go_upto_region 33 with (fail)
      refine wp_world (fun V => FunI pb A c T fin W g pl xs (.slice B5 k c5) s' V) HI.out ?_
      clear c0 c1 c2 c3 c4
      intro V2 hI2
      have HI2 := Lib.hid hI2
      refine wp_region_W 12 (fun X => X.cell? ⟨g, 5, none⟩ = some (.slice B5 k c5)) (by kernel_rfl) ?_ (fun hS0 => ?_)
      · exact hI2.n.cell 5
      clear hI2
      (refine wpAnyW_take (i := 0) (v := ?_) rfl (by kernel_rfl) (by kernel_rfl) (by kernel_rfl) (by kernel_rfl) (fun _ _ _ h => h) (Or.inl ⟨by kernel_rfl, ?_⟩) (by assumption) ?_; rotate_left; focus (intro V9 hS9; go_simp; (try (with_reducible rfl)); done))
      try simp only [Act.put, List.getElem_toArray, List.getElem_cons_zero, List.setIfInBounds_toArray, List.set_cons_succ, List.set_cons_zero]
      (refine wpAnyW_take (i := 1) (v := ?_) rfl (by kernel_rfl) (by kernel_rfl) (by kernel_rfl) (by kernel_rfl) (fun _ _ _ h => h) (Or.inl ⟨by kernel_rfl, ?_⟩) (by assumption) ?_; rotate_left; focus (intro V9 hS9; have g9 := hS9; go_simp; (try (with_reducible rfl)); done))
      try simp only [Act.put, List.getElem_toArray, List.getElem_cons_succ, List.getElem_cons_zero, List.setIfInBounds_toArray, List.set_cons_succ, List.set_cons_zero]
      (refine wpAnyW_take (i := 2) (v := ?_) rfl (by kernel_rfl) (by kernel_rfl) (by kernel_rfl) (by kernel_rfl) (fun _ _ _ h => h) (Or.inl ⟨by kernel_rfl, ?_⟩) (by assumption) ?_; rotate_left; focus (intro V9 hS9; go_simp; (try (with_reducible rfl)); done))
      try simp only [Act.put, List.getElem_toArray, List.getElem_cons_succ, List.getElem_cons_zero, List.setIfInBounds_toArray, List.set_cons_succ, List.set_cons_zero]
      (refine wpAnyW_take (i := 3) (v := ?_) rfl (by kernel_rfl) (by kernel_rfl) (by kernel_rfl) (by kernel_rfl) (fun _ _ _ h => h) (Or.inl ⟨by kernel_rfl, ?_⟩) (by assumption) ?_; rotate_left; focus (intro V9 hS9; go_simp; (try (with_reducible rfl)); done))
      try simp only [Act.put, List.getElem_toArray, List.getElem_cons_succ, List.getElem_cons_zero, List.setIfInBounds_toArray, List.set_cons_succ, List.set_cons_zero]
      (refine wpAnyW_take (i := 6) (v := ?_) rfl (by kernel_rfl) (by kernel_rfl) (by kernel_rfl) (by kernel_rfl) (fun _ _ _ h => h) (Or.inl ⟨by kernel_rfl, ?_⟩) (by assumption) ?_; rotate_left; focus (intro V9 hS9; go_simp; (try (with_reducible rfl)); done))
      try simp only [Act.put, List.getElem_toArray, List.getElem_cons_succ, List.getElem_cons_zero, List.setIfInBounds_toArray, List.set_cons_succ, List.set_cons_zero]
      (refine wpAnyW_take (i := 7) (v := ?_) rfl (by kernel_rfl) (by kernel_rfl) (by kernel_rfl) (by kernel_rfl) (fun _ _ _ h => h) (Or.inl ⟨by kernel_rfl, ?_⟩) (by assumption) ?_; rotate_left; focus (intro V9 hS9; go_simp; (try (with_reducible rfl)); done))
      try simp only [Act.put, List.getElem_toArray, List.getElem_cons_succ, List.getElem_cons_zero, List.setIfInBounds_toArray, List.set_cons_succ, List.set_cons_zero]
      refine wpAnyW_ready (rs := [4]) (by kernel_rfl) (by simp) ?_
      refine AllReadyW.cons rfl (fun K hK => ?_) AllReadyW.nil
      go_simp
      refine (HP2.out _ (HI2.out.zi.p.keep (below_drewN (Below.refl _ _) 1))).mono ?_
      rintro e V6 ⟨rfl, hb6⟩
      have hI6 : FunI pb A c T fin W g pl xs (.slice B5 k c5) s' V6 := HI2.out.keep ⟨hb6.os, hb6.tape, hb6.output, hb6.size, hb6.block⟩
      refine hK.out _ _ (hI6.n.cell 5) (fun _ => ?_)
      clear hK K
      try simp only [Act.put, List.getElem_toArray, List.getElem_cons_succ, List.getElem_cons_zero, List.setIfInBounds_toArray, List.set_cons_succ, List.set_cons_zero]
      (refine wpAnyW_take (i := 5) (v := ?_) rfl (by kernel_rfl) (by kernel_rfl) (by kernel_rfl) (by kernel_rfl) (fun _ _ _ h => h) (Or.inl ⟨by kernel_rfl, ?_⟩) (by assumption) ?_; rotate_left; focus (intro V9 hS9; go_simp; (try (with_reducible rfl)); done))
      try simp only [Act.put, List.getElem_toArray, List.getElem_cons_succ, List.getElem_cons_zero, List.setIfInBounds_toArray, List.set_cons_succ, List.set_cons_zero]
      refine wpAnyW_ready (rs := [8]) (by kernel_rfl) (by simp) ?_
      refine AllReadyW.cons rfl (fun K hK => ?_) AllReadyW.nil
      go_simp
      refine (HS3.out _ hI6.zi.p).mono ?_
      rintro e V7 ⟨y, hy, rfl, hok, hp7, hf7⟩
      replace hy := Lib.hid hy
      have hI7 := hI6.act hp7 hf7
      have hoff := hI6.off hok
      refine hK.out _ _ (hI7.n.cell 5) (fun _ => ?_)
      clear hK K
      try simp only [Act.put, List.getElem_toArray, List.getElem_cons_succ, List.getElem_cons_zero, List.setIfInBounds_toArray, List.set_cons_succ, List.set_cons_zero]
      refine wpAnyW_ready (rs := [9]) (by kernel_rfl) (by simp) ?_
      refine AllReadyW.cons rfl (fun K hK => ?_) AllReadyW.nil
      go_simp
      refine hK.out _ _ ((hI7.n.alloc _).cell 5) (fun _ => ?_)
      clear hK K
      try simp only [Act.put, List.getElem_toArray, List.getElem_cons_succ, List.getElem_cons_zero, List.setIfInBounds_toArray, List.set_cons_succ, List.set_cons_zero]
      refine wpAnyW_ready (rs := [10]) (by kernel_rfl) (by simp) ?_
      refine AllReadyW.cons rfl (fun K hK => ?_) AllReadyW.nil
      refine step_appO clauseT (by kernel_rfl) (.tmp 129) (.tmp 137) rfl (W.heap.size + 1) k (ecL xs) (.slice B5 k c5) (arm_own hI7.row HK.out) (some ⟨V7.heap.size, 0, none⟩) 1 1 y.cells (by rfl) (by rfl) rfl (cbx_one (Blk.new V7 _ _)) y.cells_one (by unfold maxLen; omega) (by omega) (Nat.le_trans hI7.zi.lt (below_alloc _ _).size) ?_
      intro v8 w8 ho8 hg8 hat8
      have hn8 : Blk w8 g 26 #[.int .i64 13, .int .i64 0, .string ⟨#[]⟩, .int .i64 pl, .slice none 0 0, .slice B5 k c5, .slice none 0 0] := (hI7.n.alloc _).grown hg8 (fun e => hI7.row.apart _ e.symm (.inr rfl))
      have hI8 := hI7.push (below_alloc V7 (.cells y.cells.toArray 67)) (hoff.move (.of_below (below_alloc V7 (.cells y.cells.toArray 67)) fun _ _ h => h)) HK.out ho8 hg8 hat8
      obtain ⟨B8, d8, rfl⟩ := own_form ho8
      refine hK.out _ _ (hn8.cell 5) (fun _ => ?_)
      clear hK K
      try simp only [Act.put, List.getElem_toArray, List.getElem_cons_succ, List.getElem_cons_zero, List.setIfInBounds_toArray, List.set_cons_succ, List.set_cons_zero]
      (refine wpAnyW_take (i := 11) (v := ?_) rfl (by kernel_rfl) (by kernel_rfl) (by kernel_rfl) (by kernel_rfl) (fun _ _ _ h => h) (Or.inl ⟨by kernel_rfl, ?_⟩) (by assumption) ?_; rotate_left; focus (intro V9 hS9; go_simp; (try (with_reducible rfl)); done))
      try simp only [Act.put, List.getElem_toArray, List.getElem_cons_succ, List.getElem_cons_zero, List.setIfInBounds_toArray, List.set_cons_succ, List.set_cons_zero]
      refine wpAnyW_ready (rs := [12]) (by kernel_rfl) (by simp) ?_
      refine AllReadyW.consE rfl (by kernel_rfl) (fun K hK => ?_) AllReadyW.nil
      have hfz := hn8.frozen 5
      have gc : w8.cell? ⟨g, 5, none⟩ = some (.slice B5 k c5) := hn8.cell 5
      go_simp
      refine hK.out _ _ ?_
      clear hK K
      refine wpAnyW_done (by kernel_rfl) ?_ _
      go_upto_region 34 with (fail)
      refine wp_world (fun V => FunI pb A c T fin W g pl (xs ++ [y]) (.slice B8 (k + 1) d8) cl.2 V) hI8 ?_
      clear hI8 hn8 hI7 hI6 hoff gc hfz ho8 hg8 hat8 hok hp7 hf7 hb6 HI2 HS3 HP2
      intro V8 hI8
      have HI8 := Lib.hid hI8
      cases hb : isP T sSemi cl.2 with
      | true =>
        have hl' := HLL.out
        rw [hb, if_pos rfl] at hl'
        have HL9 : Hid ((lang T fin m).funs (deep + 1) ((xs ++ [y]).map (fun x : EC => x.t)) (nextP cl.2) = some q) := by rw [List.map_append, List.map_singleton, hy.out]; exact hl'
        have HT2 : Hid (∀ V, PAt pb A c T fin cl.2 V → Calls Try.prog 21 #[.pointer (some ⟨pb, 0, none⟩), .string ⟨#[59]⟩] V fun r w' => r = .returned (.bool true) ∧ PAt pb A c T fin (nextP cl.2) w' ∧ PFr pb V w') := fun V hV => by
          have := HTK.out V cl.2 hV
          rw [hb, if_pos rfl] at this
          exact this
        have HLT := Lib.hid (isP_lt hb).2
        clear hl' hb hI8 HLL
        go_wp2_with (go_at_call 21; refine (HT2.out _ HI8.out.zi.p).mono ?_; rintro e V9 ⟨rfl, hp9, hf9⟩)
        have hI9 := HI8.out.act hp9 hf9
        go_roundw
        case rel => exact ⟨m, xs ++ [y], _, nextP cl.2, by omega, by rw [List.length_append, HK.out]; have := HM.out; have := HXL.out; simp only [nextP, List.length_cons, List.length_nil]; omega, HL9.out, hI9⟩
        case measure =>
          refine Nat.lt_of_le_of_lt (Nat.le_of_eq (congrArg (T.length + 1 - ·) (posOf_eq hI9.zi.p))) ?_
          rw [posOf_eq HI.out.zi.p]
          have h2 := HM.out
          have h3 := HLT.out
          simp only [nextP]
          omega
      | false =>
        have hl' := HLL.out
        rw [hb, if_neg (by simp)] at hl'
        have hq9 := Option.some.inj hl'
        rw [← hy.out] at hq9
        have HQ9 := Lib.hid hq9
        have HT2 : Hid (∀ V, PAt pb A c T fin cl.2 V → Calls Try.prog 21 #[.pointer (some ⟨pb, 0, none⟩), .string ⟨#[59]⟩] V fun r w' => r = .returned (.bool false) ∧ PAt pb A c T fin cl.2 w' ∧ PFr pb V w') := fun V hV => by
          have := HTK.out V cl.2 hV
          rw [hb, if_neg (by simp)] at this
          exact this
        have hlen7 : (xs ++ [y]).length = k + 1 := by rw [List.length_append, HK.out]; rfl
        have hbin := HI8.out.bin hlen7 (l := q.1) (by rw [List.map_append, List.map_singleton]; exact congrArg Prod.fst HQ9.out)
        have hst9 : cl.2 = q.2 := congrArg Prod.snd HQ9.out
        have HBN := Lib.hid hbin
        have HST9 := Lib.hid hst9
        clear hl' hb hI8 HLL hbin hst9 hq9
        go_upto_region 35 with (go_at_call 21; refine (HT2.out _ HI8.out.zi.p).mono ?_; rintro e V9 ⟨rfl, hp9, hf9⟩)
        refine wp_world (fun V => BinI pb A c T fin W g ⟨.mk 13 0 [] pl [] q.1 [], none, 0, B8, d8, none, 0⟩ q.2 V) (by rw [← HST9.out]; exact HBN.out.act hp9 hf9) ?_
        clear HBN hp9 hf9 HT2 HI8
        intro V8 hI8
        go_upto_region 36 with (go_at_call 26; refine (HME.out _ hI8.p).mono ?_; rintro e V7 ⟨rfl, hp7, hf7⟩)
        refine wp_world (fun V => BinI pb A c T fin W g ⟨.mk 13 0 [] pl [] q.1 [], none, 0, B8, d8, none, 0⟩ (mustP T fin sEnd q.2) V) (hI8.act hp7 hf7) ?_
        clear hI8 hp7 hf7 HME
        intro V9 hI
        obtain ⟨y, hy⟩ : ∃ y : EN, (⟨.mk 13 0 [] pl [] q.1 [], none, 0, B8, d8, none, 0⟩ : EN) = y := ⟨_, rfl⟩
        have HY9 : Hid (y.t = r.1 ∧ (mustP T fin sEnd q.2) = r.2) := by rw [← hy]; exact by rw [← HRE.out]; exact ⟨rfl, rfl⟩
        rw [hy] at hI
        clear hy
        obtain ⟨a0, a1, a2, a3, a4, a5, a6⟩ := hI.a.cells
        obtain ⟨z0, z1, z2, z3, z4, z5, z6, f0, f1, f2, f3, f4, f5, f6⟩ := zbx_facts hI.res
        go_wp2
        refine q_bp_world (fun V => NBx V W.heap.size y ∧ Fr (fun k => k = W.heap.size) V9 V) ⟨put7_blk hI.res _ _ _ _ _ _ _, put7_fr _ _ _ _ _ _ _ _ _⟩ ?_
        rintro V10 ⟨hB6, hF6⟩
        obtain ⟨x0, x1, x2, x3, x4, x5, x6⟩ := hB6.cells
        obtain ⟨e1, e2, e3⟩ := hI.fin_ hF6
        exact bodyPost_ret (v := .agg #[.int .i64 y.t.kind, .int .i64 y.t.int, .string ⟨y.t.name.toArray⟩, .int .i64 y.t.at_, .slice y.A y.t.kids.length y.c, .slice y.B y.t.clauses.length y.d, .slice y.C y.t.body.length y.e]) (by simp [results, Try.results77, go_sem, x0, x1, x2, x3, x4, x5, x6]) rfl ⟨y, HY9.out.1, rfl, e1, by rw [← HY9.out.2]; exact e2, e3⟩

end
end Go.Proofs.Ythhindnjnijglaa
