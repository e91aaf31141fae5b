/- Layer 13: the walk of the program's scope.match at leaves. Written by magend.py. -/
import Derived.Test.YtmpknhdfglbocaaGreatMaC
import Derived.Test.YtmpknhdfglbocaaGreatPCmp
import Derived.BigQuiet
import Derived.Deep.QuietTactic
import Derived.Deep.RegionHeld3
namespace Go.Proofs.YtmpknhdfglbocaaGreat
open Go.RowKit
set_option linter.unusedVariables false

set_option maxHeartbeats 1000000 in
theorem msame_any (a b : TV) (A : Option Addr) (c : Nat) (A' : Option Addr) (c' : Nat) (w0 W : World) (hW : Below w0.heap.size w0 W) (hR : RdM w0 A c a.items) (hR' : RdM w0 A' c' b.items) :
    Calls Tryz.prog 47 #[.agg #[.int .i64 a.kind, .int .i64 a.int, .string ⟨a.name.toArray⟩, .slice A a.items.length c], .agg #[.int .i64 b.kind, .int .i64 b.int, .string ⟨b.name.toArray⟩, .slice A' b.items.length c']] W fun e w' => e = .returned (.bool (a.cmp b == 0)) ∧ Below W.heap.size W w' := by
  have HC := Lib.hid (fun V (h : Below w0.heap.size w0 V) => pcmp_any a.parts a b A c A' c' w0 V (Nat.le_refl _) h hR hR')
  generalize a.items.length = tl at *
  generalize b.items.length = tm at *
  go_enter Tryz.func47, Tryz.ntmps47
  go_upto_region 1 with (fail)
  refine wp_world (C2 W #[.int .i64 a.kind, .int .i64 a.int, .string ⟨a.name.toArray⟩, .slice A tl c] #[.int .i64 b.kind, .int .i64 b.int, .string ⟨b.name.toArray⟩, .slice A' tm c']) (C2.new W _ _) ?_
  intro V hV
  have x0 := hV.x.cell 0
  have x1 := hV.x.cell 1
  have x2 := hV.x.cell 2
  have x3 := hV.x.cell 3
  have y0 := hV.y.cell 0
  have y1 := hV.y.cell 1
  have y2 := hV.y.cell 2
  have y3 := hV.y.cell 3
  go_wp2_with (go_at_call 66; refine (HC.out _ (below_step hW hV.bel)).mono ?_; rintro e w5 ⟨rfl, hb5⟩)
  go_ret
  exact ⟨rfl, below_step hV.bel hb5⟩
theorem mint_any (n : Int) (W : World) : Calls Tryz.prog 48 #[.int .i64 n] W fun e w' => e = .returned (.agg #[.int .i64 1, .int .i64 n, .string ⟨#[]⟩, .slice none 0 0]) ∧ Below W.heap.size W w' := by
  go_enter Tryz.func48, Tryz.ntmps48
  go_wp2
  exact bodyPost_ret (v := .agg #[.int .i64 1, .int .i64 n, .string ⟨#[]⟩, .slice none 0 0]) (by simp [results, Tryz.results48, go_sem]) rfl ⟨rfl, below_alloc _ _⟩
theorem matom_any (s : List UInt8) (W : World) : Calls Tryz.prog 49 #[.string ⟨s.toArray⟩] W fun e w' => e = .returned (.agg #[.int .i64 2, .int .i64 0, .string ⟨s.toArray⟩, .slice none 0 0]) ∧ Below W.heap.size W w' := by
  go_enter Tryz.func49, Tryz.ntmps49
  go_wp2
  exact bodyPost_ret (v := .agg #[.int .i64 2, .int .i64 0, .string ⟨s.toArray⟩, .slice none 0 0]) (by simp [results, Tryz.results49, go_sem]) rfl ⟨rfl, below_alloc _ _⟩
theorem rdm_nil (W : World) : RdM W none 0 [] := ⟨Nat.le_refl _, Nat.zero_le _, .inl rfl⟩
/-- A number is the same just as its kind and its number are. -/
theorem int_same {t : TV} (h : t.isT = true) (n : Int) : (t.cmp (.mk 1 n [] []) == 0) = (t.kind == 1 && t.int == n) := by
  rw [Bool.eq_iff_iff]
  simp only [beq_iff_eq, TV.cmp_zero, Bool.and_eq_true]
  constructor
  · rintro rfl; exact ⟨rfl, rfl⟩
  · rintro ⟨h1, h2⟩
    cases t with
    | mk k m s l =>
      simp only [TV.kind, TV.int] at h1 h2
      subst h1 h2
      simp [TV.isT, headB] at h
      obtain ⟨⟨⟨_, h3⟩, h4⟩, _⟩ := h
      rw [h3, h4]
theorem atom_same {t : TV} (h : t.isT = true) (s : List UInt8) : (t.cmp (.mk 2 0 s []) == 0) = (t.kind == 2 && t.name == s) := by
  rw [Bool.eq_iff_iff]
  simp only [beq_iff_eq, TV.cmp_zero, Bool.and_eq_true]
  constructor
  · rintro rfl; exact ⟨rfl, rfl⟩
  · rintro ⟨h1, h2⟩
    cases t with
    | mk k m s' l =>
      simp only [TV.kind, TV.name] at h1 h2
      subst h1 h2
      simp [TV.isT, headB] at h
      obtain ⟨⟨⟨_, h3⟩, h4⟩, _⟩ := h
      rw [h3, h4]

/-- Bindings without their memory. -/
def vE {w0 : World} (E : List (BG (TE w0))) : List BV := E.map fun q => (q.1, q.2.t)
theorem vE_get {w0 : World} (s : List UInt8) (E : List (BG (TE w0))) : getG s (vE E) = (getG s E).map (·.t) := getG_map _ _ _
theorem vE_snoc {w0 : World} (E : List (BG (TE w0))) (q : BG (TE w0)) : vE (E ++ [q]) = vE E ++ [(q.1, q.2.t)] := by simp [vE]
/-- How scope.match ends. -/
def MEnd (w0 : World) (K : List (List UInt8)) (b : Nat) (W : World) (R : List BV × Bool) (e : Ending) (w' : World) : Prop :=
  ∃ E' : List (BG (TE w0)), vE E' = R.1 ∧ (∀ q ∈ E', q.1 ∈ K) ∧ e = .returned (.bool R.2) ∧ SM w' b (risG E') ∧ Fr (fun k => k = b) W w'
/-- The two boxes and the scope. -/
structure MX (w0 W : World) (b : Nat) (E : List (BG (TE w0))) (x7 x4 : Array Value) (V : World) : Prop where
  nb : Blk V W.heap.size 29 x7
  tb : Blk V (W.heap.size + 1) 35 x4
  sm : SM V b (risG E)
  fr : Fr (fun k => k = b) W V
section
variable {w0 W V V' : World} {b : Nat} {E : List (BG (TE w0))} {x7 x4 : Array Value} {K : List (List UInt8)}
theorem MX.new (h : SM W b (risG E)) (x7 x4 : Array Value) : MX w0 W b E x7 x4 ((W.alloc (.cells x7 29)).alloc (.cells x4 35)) := by
  refine ⟨(Blk.new W _ _).alloc _, ?_, (h.keep (below_alloc _ _)).keep (below_alloc _ _), (Fr.alloc _ _ _).same (Fr.alloc _ _ _)⟩
  have := Blk.new (W.alloc (.cells x7 29)) 35 x4
  simpa using this
theorem MX.keep (h : MX w0 W b E x7 x4 V) (hb : Below V.heap.size V V') : MX w0 W b E x7 x4 V' := ⟨h.nb.keep hb, h.tb.keep hb, h.sm.keep hb, h.fr.same (Fr.of_below hb _)⟩
theorem MX.back (h : MX w0 W b E x7 x4 V) (hE : ∀ q ∈ E, q.1 ∈ K) (r : Bool) : MEnd w0 K b W (vE E, r) (.returned (.bool r)) V := ⟨E, rfl, hE, rfl, h.sm, h.fr⟩
theorem MX.below (h : MX w0 W b E x7 x4 V) (hW : Below w0.heap.size w0 W) (hb : w0.heap.size ≤ b) : Below w0.heap.size w0 V := hW.trans (h.fr.below hW.size (fun k hk => by omega))

set_option maxRecDepth 100000 in
set_option maxHeartbeats 2000000 in
theorem mm_k1 (hE : ∀ q ∈ E, q.1 ∈ K) (hs : SM W b (risG E)) (t : TE w0) (hW : Below w0.heap.size w0 W) (hb : w0.heap.size ≤ b) (n : Int) (s : List UInt8) (a : Int) (v4 v5 v6 : Value) (ht : t.t.isT = true) :
    Calls Tryz.prog 29 #[.map (some b), .agg #[.int .i64 1, .int .i64 n, .string ⟨s.toArray⟩, .int .i64 a, v4, v5, v6], .agg #[.int .i64 t.t.kind, .int .i64 t.t.int, .string ⟨t.t.name.toArray⟩, .slice t.A t.t.items.length t.c]] W (MEnd w0 K b W (vE E, t.t.kind == 1 && t.t.int == n)) := by
  have HSM := Lib.hid hs
  have HSA : Hid (∀ V, Below w0.heap.size w0 V → Calls Tryz.prog 47 #[.agg #[.int .i64 t.t.kind, .int .i64 t.t.int, .string ⟨t.t.name.toArray⟩, .slice t.A t.t.items.length t.c], .agg #[.int .i64 1, .int .i64 n, .string ⟨#[]⟩, .slice none 0 0]] V fun e w' => e = .returned (.bool (t.t.kind == 1 && t.t.int == n)) ∧ Below V.heap.size V w') := fun V hV => by
    have := msame_any t.t (.mk 1 n [] []) t.A t.c none 0 w0 V hV t.ok (rdm_nil _)
    rw [int_same ht] at this
    exact this
  obtain ⟨R, hR⟩ : ∃ R, (t.t.kind == 1 && t.t.int == n) = R := ⟨_, rfl⟩
  rw [hR] at HSA ⊢
  clear hR ht
  generalize t.t.items.length = tl at *
  generalize t.t.kind = tk at *
  generalize t.t.int = ti at *
  generalize t.t.name = tn at *
  generalize t.A = tA at *
  generalize t.c = tc at *
  go_enter Tryz.func29, Tryz.ntmps29
  go_upto_region 1 with (fail)
  refine wp_world (MX w0 W b E #[.int .i64 1, .int .i64 n, .string ⟨s.toArray⟩, .int .i64 a, v4, v5, v6] #[.int .i64 tk, .int .i64 ti, .string ⟨tn.toArray⟩, .slice tA tl tc]) (MX.new HSM.out _ _) ?_
  intro V hV
  have x0 := hV.nb.cell 0
  have x1 := hV.nb.cell 1
  have x2 := hV.nb.cell 2
  have x4 := hV.nb.cell 4
  have y0 := hV.tb.cell 0
  have y1 := hV.tb.cell 1
  have y2 := hV.tb.cell 2
  have y3 := hV.tb.cell 3
  have HV := Lib.hid hV
  clear hV
  go_upto_region 3 with (fail)
  have HS : Hid (∀ V', Below V.heap.size V V' → ((V'.cell? ⟨W.heap.size + 1, 0, none⟩ = some (.int .i64 tk) ∧ V'.cell? ⟨W.heap.size + 1, 1, none⟩ = some (.int .i64 ti) ∧ V'.cell? ⟨W.heap.size + 1, 2, none⟩ = some (.string ⟨tn.toArray⟩) ∧ V'.cell? ⟨W.heap.size + 1, 3, none⟩ = some (.slice tA tl tc)) ∧ V'.cell? ⟨W.heap.size, 1, none⟩ = some (.int .i64 n)) ∧ Below V.heap.size V V') := fun V' hb9 => ⟨⟨⟨(HV.out.keep hb9).tb.cell 0, (HV.out.keep hb9).tb.cell 1, (HV.out.keep hb9).tb.cell 2, (HV.out.keep hb9).tb.cell 3⟩, (HV.out.keep hb9).nb.cell 1⟩, hb9⟩
  have HC1 : Hid (∀ V', Below V.heap.size V V' → Calls Tryz.prog 48 #[.int .i64 n] V' fun e w' => e = .returned (.agg #[.int .i64 1, .int .i64 n, .string ⟨#[]⟩, .slice none 0 0]) ∧ Below V.heap.size V w') := fun V' hb9 => (mint_any _ V').mono fun e w' ⟨h1, h2⟩ => ⟨h1, below_step hb9 h2⟩
  have HC2 : Hid (∀ V', Below V.heap.size V V' → Calls Tryz.prog 47 #[.agg #[.int .i64 tk, .int .i64 ti, .string ⟨tn.toArray⟩, .slice tA tl tc], .agg #[.int .i64 1, .int .i64 n, .string ⟨#[]⟩, .slice none 0 0]] V' fun e w' => e = .returned (.bool R) ∧ Below V.heap.size V w') := fun V' hb9 => (HSA.out V' (below_step (HV.out.below hW hb) hb9)).mono fun e w' ⟨h1, h2⟩ => ⟨h1, below_step hb9 h2⟩
  clear HSA
  go_region_held3 (fun V' => ((V'.cell? ⟨W.heap.size + 1, 0, none⟩ = some (.int .i64 tk) ∧ V'.cell? ⟨W.heap.size + 1, 1, none⟩ = some (.int .i64 ti) ∧ V'.cell? ⟨W.heap.size + 1, 2, none⟩ = some (.string ⟨tn.toArray⟩) ∧ V'.cell? ⟨W.heap.size + 1, 3, none⟩ = some (.slice tA tl tc)) ∧ V'.cell? ⟨W.heap.size, 1, none⟩ = some (.int .i64 n)) ∧ Below V.heap.size V V') (first | exact HS.out _ hb9 | exact HS.out _ (Below.refl _ _).drew) ((first
    | (go_at_call 48; refine (HC1.out _ (And.right (by assumption))).mono ?_; rintro e w' ⟨rfl, hb9⟩)
    | (go_at_call 47; refine (HC2.out _ (And.right (by assumption))).mono ?_; rintro e w' ⟨rfl, hb9⟩)))
  all_goals
    go_wp2
    go_ret
    exact (HV.out.keep hb9).back hE R

set_option maxRecDepth 100000 in
set_option maxHeartbeats 2000000 in
theorem mm_k2 (hE : ∀ q ∈ E, q.1 ∈ K) (hs : SM W b (risG E)) (t : TE w0) (hW : Below w0.heap.size w0 W) (hb : w0.heap.size ≤ b) (n : Int) (s : List UInt8) (a : Int) (v4 v5 v6 : Value) (ht : t.t.isT = true) :
    Calls Tryz.prog 29 #[.map (some b), .agg #[.int .i64 2, .int .i64 n, .string ⟨s.toArray⟩, .int .i64 a, v4, v5, v6], .agg #[.int .i64 t.t.kind, .int .i64 t.t.int, .string ⟨t.t.name.toArray⟩, .slice t.A t.t.items.length t.c]] W (MEnd w0 K b W (vE E, t.t.kind == 2 && t.t.name == s)) := by
  have HSM := Lib.hid hs
  have HSA : Hid (∀ V, Below w0.heap.size w0 V → Calls Tryz.prog 47 #[.agg #[.int .i64 t.t.kind, .int .i64 t.t.int, .string ⟨t.t.name.toArray⟩, .slice t.A t.t.items.length t.c], .agg #[.int .i64 2, .int .i64 0, .string ⟨s.toArray⟩, .slice none 0 0]] V fun e w' => e = .returned (.bool (t.t.kind == 2 && t.t.name == s)) ∧ Below V.heap.size V w') := fun V hV => by
    have := msame_any t.t (.mk 2 0 s []) t.A t.c none 0 w0 V hV t.ok (rdm_nil _)
    rw [atom_same ht] at this
    exact this
  obtain ⟨R, hR⟩ : ∃ R, (t.t.kind == 2 && t.t.name == s) = R := ⟨_, rfl⟩
  rw [hR] at HSA ⊢
  clear hR ht
  generalize t.t.items.length = tl at *
  generalize t.t.kind = tk at *
  generalize t.t.int = ti at *
  generalize t.t.name = tn at *
  generalize t.A = tA at *
  generalize t.c = tc at *
  go_enter Tryz.func29, Tryz.ntmps29
  go_upto_region 1 with (fail)
  refine wp_world (MX w0 W b E #[.int .i64 2, .int .i64 n, .string ⟨s.toArray⟩, .int .i64 a, v4, v5, v6] #[.int .i64 tk, .int .i64 ti, .string ⟨tn.toArray⟩, .slice tA tl tc]) (MX.new HSM.out _ _) ?_
  intro V hV
  have x0 := hV.nb.cell 0
  have x1 := hV.nb.cell 1
  have x2 := hV.nb.cell 2
  have x4 := hV.nb.cell 4
  have y0 := hV.tb.cell 0
  have y1 := hV.tb.cell 1
  have y2 := hV.tb.cell 2
  have y3 := hV.tb.cell 3
  have HV := Lib.hid hV
  clear hV
  go_upto_region 7 with (fail)
  have HS : Hid (∀ V', Below V.heap.size V V' → ((V'.cell? ⟨W.heap.size + 1, 0, none⟩ = some (.int .i64 tk) ∧ V'.cell? ⟨W.heap.size + 1, 1, none⟩ = some (.int .i64 ti) ∧ V'.cell? ⟨W.heap.size + 1, 2, none⟩ = some (.string ⟨tn.toArray⟩) ∧ V'.cell? ⟨W.heap.size + 1, 3, none⟩ = some (.slice tA tl tc)) ∧ V'.cell? ⟨W.heap.size, 2, none⟩ = some (.string ⟨s.toArray⟩)) ∧ Below V.heap.size V V') := fun V' hb9 => ⟨⟨⟨(HV.out.keep hb9).tb.cell 0, (HV.out.keep hb9).tb.cell 1, (HV.out.keep hb9).tb.cell 2, (HV.out.keep hb9).tb.cell 3⟩, (HV.out.keep hb9).nb.cell 2⟩, hb9⟩
  have HC1 : Hid (∀ V', Below V.heap.size V V' → Calls Tryz.prog 49 #[.string ⟨s.toArray⟩] V' fun e w' => e = .returned (.agg #[.int .i64 2, .int .i64 0, .string ⟨s.toArray⟩, .slice none 0 0]) ∧ Below V.heap.size V w') := fun V' hb9 => (matom_any _ V').mono fun e w' ⟨h1, h2⟩ => ⟨h1, below_step hb9 h2⟩
  have HC2 : Hid (∀ V', Below V.heap.size V V' → Calls Tryz.prog 47 #[.agg #[.int .i64 tk, .int .i64 ti, .string ⟨tn.toArray⟩, .slice tA tl tc], .agg #[.int .i64 2, .int .i64 0, .string ⟨s.toArray⟩, .slice none 0 0]] V' fun e w' => e = .returned (.bool R) ∧ Below V.heap.size V w') := fun V' hb9 => (HSA.out V' (below_step (HV.out.below hW hb) hb9)).mono fun e w' ⟨h1, h2⟩ => ⟨h1, below_step hb9 h2⟩
  clear HSA
  go_region_held3 (fun V' => ((V'.cell? ⟨W.heap.size + 1, 0, none⟩ = some (.int .i64 tk) ∧ V'.cell? ⟨W.heap.size + 1, 1, none⟩ = some (.int .i64 ti) ∧ V'.cell? ⟨W.heap.size + 1, 2, none⟩ = some (.string ⟨tn.toArray⟩) ∧ V'.cell? ⟨W.heap.size + 1, 3, none⟩ = some (.slice tA tl tc)) ∧ V'.cell? ⟨W.heap.size, 2, none⟩ = some (.string ⟨s.toArray⟩)) ∧ Below V.heap.size V V') (first | exact HS.out _ hb9 | exact HS.out _ (Below.refl _ _).drew) ((first
    | (go_at_call 49; refine (HC1.out _ (And.right (by assumption))).mono ?_; rintro e w' ⟨rfl, hb9⟩)
    | (go_at_call 47; refine (HC2.out _ (And.right (by assumption))).mono ?_; rintro e w' ⟨rfl, hb9⟩)))
  all_goals
    go_wp2
    go_ret
    exact (HV.out.keep hb9).back hE R

set_option maxRecDepth 100000 in
set_option maxHeartbeats 2000000 in
theorem mm_k10 (hE : ∀ q ∈ E, q.1 ∈ K) (hs : SM W b (risG E)) (t : TE w0) (hW : Below w0.heap.size w0 W) (hb : w0.heap.size ≤ b) (n : Int) (s : List UInt8) (a : Int) (v5 v6 : Value) (ht : t.t.isT = true) (ba oa c : Nat) (m nm : Int) (hcell : w0.cell? ⟨ba, oa + 1, none⟩ = some (.int .i64 m)) (hneg : IntKind.i64.wrap (-m) = nm) (h1c : 1 ≤ c) (hc63 : c ≤ 9223372036854775807) :
    Calls Tryz.prog 29 #[.map (some b), .agg #[.int .i64 10, .int .i64 n, .string ⟨s.toArray⟩, .int .i64 a, .slice (some ⟨ba, oa, none⟩) 1 c, v5, v6], .agg #[.int .i64 t.t.kind, .int .i64 t.t.int, .string ⟨t.t.name.toArray⟩, .slice t.A t.t.items.length t.c]] W (MEnd w0 K b W (vE E, t.t.kind == 1 && t.t.int == nm)) := by
  have HSM := Lib.hid hs
  have HSA : Hid (∀ V, Below w0.heap.size w0 V → Calls Tryz.prog 47 #[.agg #[.int .i64 t.t.kind, .int .i64 t.t.int, .string ⟨t.t.name.toArray⟩, .slice t.A t.t.items.length t.c], .agg #[.int .i64 1, .int .i64 nm, .string ⟨#[]⟩, .slice none 0 0]] V fun e w' => e = .returned (.bool (t.t.kind == 1 && t.t.int == nm)) ∧ Below V.heap.size V w') := fun V hV => by
    have := msame_any t.t (.mk 1 nm [] []) t.A t.c none 0 w0 V hV t.ok (rdm_nil _)
    rw [int_same ht] at this
    exact this
  obtain ⟨R, hR⟩ : ∃ R, (t.t.kind == 1 && t.t.int == nm) = R := ⟨_, rfl⟩
  rw [hR] at HSA ⊢
  clear hR ht
  generalize t.t.items.length = tl at *
  generalize t.t.kind = tk at *
  generalize t.t.int = ti at *
  generalize t.t.name = tn at *
  generalize t.A = tA at *
  generalize t.c = tc at *
  go_enter Tryz.func29, Tryz.ntmps29
  go_upto_region 1 with (fail)
  refine wp_world (MX w0 W b E #[.int .i64 10, .int .i64 n, .string ⟨s.toArray⟩, .int .i64 a, .slice (some ⟨ba, oa, none⟩) 1 c, v5, v6] #[.int .i64 tk, .int .i64 ti, .string ⟨tn.toArray⟩, .slice tA tl tc]) (MX.new HSM.out _ _) ?_
  intro V hV
  have x0 := hV.nb.cell 0
  have x1 := hV.nb.cell 1
  have x2 := hV.nb.cell 2
  have x4 := hV.nb.cell 4
  have y0 := hV.tb.cell 0
  have y1 := hV.tb.cell 1
  have y2 := hV.tb.cell 2
  have y3 := hV.tb.cell 3
  have HV := Lib.hid hV
  clear hV
  go_upto_region 5 with (fail)
  have HS : Hid (∀ V', Below V.heap.size V V' → ((V'.cell? ⟨W.heap.size + 1, 0, none⟩ = some (.int .i64 tk) ∧ V'.cell? ⟨W.heap.size + 1, 1, none⟩ = some (.int .i64 ti) ∧ V'.cell? ⟨W.heap.size + 1, 2, none⟩ = some (.string ⟨tn.toArray⟩) ∧ V'.cell? ⟨W.heap.size + 1, 3, none⟩ = some (.slice tA tl tc)) ∧ V'.cell? ⟨W.heap.size, 4, none⟩ = some (.slice (some ⟨ba, oa, none⟩) 1 c) ∧ V'.cell? ⟨ba, oa + 1, none⟩ = some (.int .i64 m)) ∧ Below V.heap.size V V') := fun V' hb9 => ⟨⟨⟨(HV.out.keep hb9).tb.cell 0, (HV.out.keep hb9).tb.cell 1, (HV.out.keep hb9).tb.cell 2, (HV.out.keep hb9).tb.cell 3⟩, (HV.out.keep hb9).nb.cell 4, ((HV.out.keep hb9).below hW hb).cell (World.block_lt_of_cell? w0 _ hcell) |>.trans hcell⟩, hb9⟩
  have HC1 : Hid (∀ V', Below V.heap.size V V' → Calls Tryz.prog 48 #[.int .i64 nm] V' fun e w' => e = .returned (.agg #[.int .i64 1, .int .i64 nm, .string ⟨#[]⟩, .slice none 0 0]) ∧ Below V.heap.size V w') := fun V' hb9 => (mint_any _ V').mono fun e w' ⟨h1, h2⟩ => ⟨h1, below_step hb9 h2⟩
  have HC2 : Hid (∀ V', Below V.heap.size V V' → Calls Tryz.prog 47 #[.agg #[.int .i64 tk, .int .i64 ti, .string ⟨tn.toArray⟩, .slice tA tl tc], .agg #[.int .i64 1, .int .i64 nm, .string ⟨#[]⟩, .slice none 0 0]] V' fun e w' => e = .returned (.bool R) ∧ Below V.heap.size V w') := fun V' hb9 => (HSA.out V' (below_step (HV.out.below hW hb) hb9)).mono fun e w' ⟨h1, h2⟩ => ⟨h1, below_step hb9 h2⟩
  clear HSA
  go_region_held3 (fun V' => ((V'.cell? ⟨W.heap.size + 1, 0, none⟩ = some (.int .i64 tk) ∧ V'.cell? ⟨W.heap.size + 1, 1, none⟩ = some (.int .i64 ti) ∧ V'.cell? ⟨W.heap.size + 1, 2, none⟩ = some (.string ⟨tn.toArray⟩) ∧ V'.cell? ⟨W.heap.size + 1, 3, none⟩ = some (.slice tA tl tc)) ∧ V'.cell? ⟨W.heap.size, 4, none⟩ = some (.slice (some ⟨ba, oa, none⟩) 1 c) ∧ V'.cell? ⟨ba, oa + 1, none⟩ = some (.int .i64 m)) ∧ Below V.heap.size V V') (first | exact HS.out _ hb9 | exact HS.out _ (Below.refl _ _).drew) ((first
    | (go_at_call 48; refine (HC1.out _ (And.right (by assumption))).mono ?_; rintro e w' ⟨rfl, hb9⟩)
    | (go_at_call 47; refine (HC2.out _ (And.right (by assumption))).mono ?_; rintro e w' ⟨rfl, hb9⟩)))
  all_goals
    go_wp2
    go_ret
    exact (HV.out.keep hb9).back hE R

set_option maxRecDepth 100000 in
set_option maxHeartbeats 2000000 in
theorem mm_k5 (hE : ∀ q ∈ E, q.1 ∈ K) (hs : SM W b (risG E)) (t : TE w0) (hW : Below w0.heap.size w0 W) (hb : w0.heap.size ≤ b) (n : Int) (s : List UInt8) (a : Int) (v4 v5 v6 : Value)  :
    Calls Tryz.prog 29 #[.map (some b), .agg #[.int .i64 5, .int .i64 n, .string ⟨s.toArray⟩, .int .i64 a, v4, v5, v6], .agg #[.int .i64 t.t.kind, .int .i64 t.t.int, .string ⟨t.t.name.toArray⟩, .slice t.A t.t.items.length t.c]] W (MEnd w0 K b W (vE E, t.t.kind == 7)) := by
  have HSM := Lib.hid hs
  generalize t.t.items.length = tl at *
  generalize t.t.kind = tk at *
  generalize t.t.int = ti at *
  generalize t.t.name = tn at *
  generalize t.A = tA at *
  generalize t.c = tc at *
  go_enter Tryz.func29, Tryz.ntmps29
  go_upto_region 1 with (fail)
  refine wp_world (MX w0 W b E #[.int .i64 5, .int .i64 n, .string ⟨s.toArray⟩, .int .i64 a, v4, v5, v6] #[.int .i64 tk, .int .i64 ti, .string ⟨tn.toArray⟩, .slice tA tl tc]) (MX.new HSM.out _ _) ?_
  intro V hV
  have x0 := hV.nb.cell 0
  have x1 := hV.nb.cell 1
  have x2 := hV.nb.cell 2
  have x4 := hV.nb.cell 4
  have y0 := hV.tb.cell 0
  have y1 := hV.tb.cell 1
  have y2 := hV.tb.cell 2
  have y3 := hV.tb.cell 3
  have HV := Lib.hid hV
  clear hV
  go_wp2
  go_ret
  exact HV.out.back hE _

set_option maxRecDepth 100000 in
set_option maxHeartbeats 2000000 in
theorem mm_k3a (hE : ∀ q ∈ E, q.1 ∈ K) (hs : SM W b (risG E)) (t : TE w0) (hW : Below w0.heap.size w0 W) (hb : w0.heap.size ≤ b) (n : Int) (s : List UInt8) (a : Int) (v4 v5 v6 : Value) (hus : (s == [95]) = true) :
    Calls Tryz.prog 29 #[.map (some b), .agg #[.int .i64 3, .int .i64 n, .string ⟨s.toArray⟩, .int .i64 a, v4, v5, v6], .agg #[.int .i64 t.t.kind, .int .i64 t.t.int, .string ⟨t.t.name.toArray⟩, .slice t.A t.t.items.length t.c]] W (MEnd w0 K b W (vE E, true)) := by
  have HSM := Lib.hid hs
  generalize t.t.items.length = tl at *
  generalize t.t.kind = tk at *
  generalize t.t.int = ti at *
  generalize t.t.name = tn at *
  generalize t.A = tA at *
  generalize t.c = tc at *
  go_enter Tryz.func29, Tryz.ntmps29
  go_upto_region 1 with (fail)
  refine wp_world (MX w0 W b E #[.int .i64 3, .int .i64 n, .string ⟨s.toArray⟩, .int .i64 a, v4, v5, v6] #[.int .i64 tk, .int .i64 ti, .string ⟨tn.toArray⟩, .slice tA tl tc]) (MX.new HSM.out _ _) ?_
  intro V hV
  have x0 := hV.nb.cell 0
  have x1 := hV.nb.cell 1
  have x2 := hV.nb.cell 2
  have x4 := hV.nb.cell 4
  have y0 := hV.tb.cell 0
  have y1 := hV.tb.cell 1
  have y2 := hV.tb.cell 2
  have y3 := hV.tb.cell 3
  have HV := Lib.hid hV
  clear hV
  go_wp2
  go_ret
  exact HV.out.back hE _

set_option maxRecDepth 100000 in
set_option maxHeartbeats 2000000 in
theorem mm_k3b (hE : ∀ q ∈ E, q.1 ∈ K) (hs : SM W b (risG E)) (t : TE w0) (hW : Below w0.heap.size w0 W) (hb : w0.heap.size ≤ b) (n : Int) (s : List UInt8) (a : Int) (v4 v5 v6 : Value) (hus : (s == [95]) = false) (hs5 : s.length ≤ 1000000) (e : TE w0) (he : getG s E = some e) :
    Calls Tryz.prog 29 #[.map (some b), .agg #[.int .i64 3, .int .i64 n, .string ⟨s.toArray⟩, .int .i64 a, v4, v5, v6], .agg #[.int .i64 t.t.kind, .int .i64 t.t.int, .string ⟨t.t.name.toArray⟩, .slice t.A t.t.items.length t.c]] W (MEnd w0 K b W (vE E, e.t.cmp t.t == 0)) := by
  have HSM := Lib.hid hs
  have HSA : Hid (∀ V, Below w0.heap.size w0 V → Calls Tryz.prog 47 #[.agg #[.int .i64 e.t.kind, .int .i64 e.t.int, .string ⟨e.t.name.toArray⟩, .slice e.A e.t.items.length e.c], .agg #[.int .i64 t.t.kind, .int .i64 t.t.int, .string ⟨t.t.name.toArray⟩, .slice t.A t.t.items.length t.c]] V fun r w' => r = .returned (.bool (e.t.cmp t.t == 0)) ∧ Below V.heap.size V w') := fun V hV => msame_any e.t t.t e.A e.c t.A t.c w0 V hV e.ok t.ok
  have HLK : Hid (∀ V, MX w0 W b E #[.int .i64 3, .int .i64 n, .string ⟨s.toArray⟩, .int .i64 a, v4, v5, v6] #[.int .i64 t.t.kind, .int .i64 t.t.int, .string ⟨t.t.name.toArray⟩, .slice t.A t.t.items.length t.c] V → (Instr.lookup 65 (.map (some b)) (.string ⟨s.toArray⟩) true).run Tryz.prog V = .ok (.tuple #[.agg #[.int .i64 e.t.kind, .int .i64 e.t.int, .string ⟨e.t.name.toArray⟩, .slice e.A e.t.items.length e.c], .bool true]) V) := fun V hV => by
    have := hV.sm.look (s := s) (by unfold maxLen; omega)
    rw [getG_risG, he] at this
    exact this
  obtain ⟨R, hR⟩ : ∃ R, (e.t.cmp t.t == 0) = R := ⟨_, rfl⟩
  rw [hR] at HSA ⊢
  clear hR he
  generalize t.t.items.length = tl at *
  generalize t.t.kind = tk at *
  generalize t.t.int = ti at *
  generalize t.t.name = tn at *
  generalize t.A = tA at *
  generalize t.c = tc at *
  generalize e.t.items.length = el at *
  generalize e.t.kind = ek at *
  generalize e.t.int = ei at *
  generalize e.t.name = en at *
  generalize e.A = eA at *
  generalize e.c = ec at *
  go_enter Tryz.func29, Tryz.ntmps29
  go_upto_region 1 with (fail)
  refine wp_world (MX w0 W b E #[.int .i64 3, .int .i64 n, .string ⟨s.toArray⟩, .int .i64 a, v4, v5, v6] #[.int .i64 tk, .int .i64 ti, .string ⟨tn.toArray⟩, .slice tA tl tc]) (MX.new HSM.out _ _) ?_
  intro V hV
  have x0 := hV.nb.cell 0
  have x1 := hV.nb.cell 1
  have x2 := hV.nb.cell 2
  have x4 := hV.nb.cell 4
  have y0 := hV.tb.cell 0
  have y1 := hV.tb.cell 1
  have y2 := hV.tb.cell 2
  have y3 := hV.tb.cell 3
  have HV := Lib.hid hV
  clear hV
  have hlk := HLK.out V HV.out
  clear HLK
  go_upto_region 15 with (fail)
  clear hlk
  have HV2 := Lib.hid (HV.out.keep (below_alloc V (.cells #[.int .i64 ek, .int .i64 ei, .string ⟨en.toArray⟩, .slice eA el ec] 35)))
  refine wp_world (fun V2 => MX w0 W b E #[.int .i64 3, .int .i64 n, .string ⟨s.toArray⟩, .int .i64 a, v4, v5, v6] #[.int .i64 tk, .int .i64 ti, .string ⟨tn.toArray⟩, .slice tA tl tc] V2 ∧ Blk V2 V.heap.size 35 #[.int .i64 ek, .int .i64 ei, .string ⟨en.toArray⟩, .slice eA el ec]) ⟨HV2.out, Blk.new _ _ _⟩ ?_
  clear HV2 HV x0 x1 x2 x4 y0 y1 y2 y3
  rintro V2 ⟨hV, hB⟩
  have y0 := hV.tb.cell 0
  have y1 := hV.tb.cell 1
  have y2 := hV.tb.cell 2
  have y3 := hV.tb.cell 3
  have z0 := hB.cell 0
  have z1 := hB.cell 1
  have z2 := hB.cell 2
  have z3 := hB.cell 3
  have HV := Lib.hid hV
  clear hV hB
  go_wp2_with (go_at_call 47; refine (HSA.out _ (HV.out.below hW hb)).mono ?_; rintro r w5 ⟨rfl, hb5⟩)
  go_ret
  exact (HV.out.keep hb5).back hE R

set_option maxRecDepth 100000 in
set_option maxHeartbeats 2000000 in
theorem mm_k3c (hE : ∀ q ∈ E, q.1 ∈ K) (hs : SM W b (risG E)) (t : TE w0) (hW : Below w0.heap.size w0 W) (hb : w0.heap.size ≤ b) (n : Int) (s : List UInt8) (a : Int) (v4 v5 v6 : Value) (hus : (s == [95]) = false) (hs5 : s.length ≤ 1000000) (hsK : s ∈ K) (hL : (risG E).length ≤ 1000000) (he : getG s E = none) :
    Calls Tryz.prog 29 #[.map (some b), .agg #[.int .i64 3, .int .i64 n, .string ⟨s.toArray⟩, .int .i64 a, v4, v5, v6], .agg #[.int .i64 t.t.kind, .int .i64 t.t.int, .string ⟨t.t.name.toArray⟩, .slice t.A t.t.items.length t.c]] W (MEnd w0 K b W (vE E ++ [(s, t.t)], true)) := by
  have HSM := Lib.hid hs
  have HLK : Hid (∀ V, MX w0 W b E #[.int .i64 3, .int .i64 n, .string ⟨s.toArray⟩, .int .i64 a, v4, v5, v6] #[.int .i64 t.t.kind, .int .i64 t.t.int, .string ⟨t.t.name.toArray⟩, .slice t.A t.t.items.length t.c] V → (Instr.lookup 65 (.map (some b)) (.string ⟨s.toArray⟩) true).run Tryz.prog V = .ok (.tuple #[.agg #[.int .i64 0, .int .i64 0, .string ⟨#[]⟩, .slice none 0 0], .bool false]) V) := fun V hV => by
    have := hV.sm.look (s := s) (by unfold maxLen; omega)
    rw [getG_risG, he] at this
    exact this
  have HST : Hid (∀ V, SM V b (risG E) → ∃ w', (Instr.mapUpdate 65 (.map (some b)) (.string ⟨s.toArray⟩) (.agg #[.int .i64 t.t.kind, .int .i64 t.t.int, .string ⟨t.t.name.toArray⟩, .slice t.A t.t.items.length t.c])).run Tryz.prog V = .ok () w' ∧ SM w' b (risG (E ++ [(s, t)])) ∧ Fr (fun k => k = b) V w') := fun V hV => by
    rw [risG_snoc]
    exact hV.store (by unfold maxLen; omega) (by unfold maxLen; omega) t
  have HEK : Hid (vE (E ++ [(s, t)]) = vE E ++ [(s, t.t)] ∧ ∀ q ∈ E ++ [(s, t)], q.1 ∈ K) := ⟨vE_snoc _ _, fun q hq => by
    rcases List.mem_append.1 hq with hq | hq
    · exact hE q hq
    · rw [List.mem_singleton.1 hq]; exact hsK⟩
  obtain ⟨E2, hE2⟩ : ∃ E2, E ++ [(s, t)] = E2 := ⟨_, rfl⟩
  obtain ⟨R, hR⟩ : ∃ R, vE E ++ [(s, t.t)] = R := ⟨_, rfl⟩
  rw [hE2] at HST HEK
  rw [hR] at HEK ⊢
  clear hR hE2 he hL hsK
  generalize t.t.items.length = tl at *
  generalize t.t.kind = tk at *
  generalize t.t.int = ti at *
  generalize t.t.name = tn at *
  generalize t.A = tA at *
  generalize t.c = tc at *
  go_enter Tryz.func29, Tryz.ntmps29
  go_upto_region 1 with (fail)
  refine wp_world (MX w0 W b E #[.int .i64 3, .int .i64 n, .string ⟨s.toArray⟩, .int .i64 a, v4, v5, v6] #[.int .i64 tk, .int .i64 ti, .string ⟨tn.toArray⟩, .slice tA tl tc]) (MX.new HSM.out _ _) ?_
  intro V hV
  have x0 := hV.nb.cell 0
  have x1 := hV.nb.cell 1
  have x2 := hV.nb.cell 2
  have x4 := hV.nb.cell 4
  have y0 := hV.tb.cell 0
  have y1 := hV.tb.cell 1
  have y2 := hV.tb.cell 2
  have y3 := hV.tb.cell 3
  have HV := Lib.hid hV
  clear hV
  have hlk := HLK.out V HV.out
  clear HLK
  go_upto_region 16 with (fail)
  clear hlk
  have HV2 := Lib.hid (HV.out.keep (below_alloc V (.cells #[.int .i64 0, .int .i64 0, .string ⟨#[]⟩, .slice none 0 0] 35)))
  refine wp_world (fun V2 => MX w0 W b E #[.int .i64 3, .int .i64 n, .string ⟨s.toArray⟩, .int .i64 a, v4, v5, v6] #[.int .i64 tk, .int .i64 ti, .string ⟨tn.toArray⟩, .slice tA tl tc] V2) HV2.out ?_
  clear HV2 HV x0 x1 x2 x4 y0 y1 y2 y3
  intro V2 hV
  obtain ⟨w1, hup, hsm1, hf1⟩ := HST.out V2 hV.sm
  have x2 := hV.nb.cell 2
  have y0 := hV.tb.cell 0
  have y1 := hV.tb.cell 1
  have y2 := hV.tb.cell 2
  have y3 := hV.tb.cell 3
  have HEnd := Lib.hid (show MEnd w0 K b W (R, true) (.returned (.bool true)) w1 from ⟨E2, HEK.out.1, HEK.out.2, rfl, hsm1, hV.fr.same hf1⟩)
  clear hV hsm1 hf1 HST
  go_wp2
  go_ret
  exact HEnd.out
end
end Go.Proofs.YtmpknhdfglbocaaGreat
