/- Heap (layer 9): HeapLays, the walk. Written by hlays.py. -/
import Derived.Test.YtefnjplfemgibaaHqD
import Derived.Test.YtefnjplfemgibaaHqO
import Derived.Test.YtefnjplfemgibaaHqK
import Derived.Test.YtefnjplfemgibaaHpX
namespace Go.Proofs.Ytefnjplfemgibaa
open Go.RowKit
set_option linter.unusedVariables false

section
variable {w W V V' : World} {Aw Aa Ar A1 : Option Addr} {lw cw la ca lr cr n1 c1 : Nat} {ws rs : List Nat} {nm : List (List UInt8)} {l : List TV}
theorem lit_below9 {w1 w2 : World} {ob : Obj} {cap : Nat} (hb : Below W.heap.size W (w1.alloc ob)) (hg : (w1.alloc ob).grownBy w2 (Value.slice (some ⟨w1.heap.size, 0, none⟩) 0 cap).ownBlock) (hW : W.heap.size ≤ w1.heap.size) : Below W.heap.size W w2 :=
  hb.grown hg hb.size (fun k hk => by have := Option.some.inj hk; simp only at this; omega)
theorem lval_own9 {B n : Nat} {v : Value} {cs : List Value} {l : List TV} (ho : V.ownsRow B 37 4 v n cs) (hs : Std V cs l) : LVal V v l :=
  (lex_own (X := fun _ => False) ho (fun _ h => h.elim) (hs.kept (kept_all V))).1.val
theorem LVal.rdm9 {A : Option Addr} {n c : Nat} {l : List TV} (h : LVal V (.slice A n c) l) : RdM V A c l ∧ l.length = n := by
  obtain ⟨A', n', c', e, h1, h2⟩ := h
  obtain ⟨rfl, rfl, rfl⟩ := Value.slice.inj e
  exact ⟨h2, h1⟩
/-- A heap in new memory, with its error. -/
def HeapNewE (V : World) (ck : Nat) (k1 k2 k3 : Nat) (wa : List Nat) (na : List (List UInt8)) (ra : List Nat) (e : Ending) (w' : World) : Prop :=
  Below V.heap.size V w' ∧ ∃ Bw dw Ba da Br dr, e = .returned (.tuple #[.agg #[.slice Bw k1 dw, .slice Ba k2 da, .slice Br k3 dr], .int .i64 (ck : Int)]) ∧ HRd w' Bw k1 dw Ba k2 da Br k3 dr wa na ra
def laidW (l : List TV) : List Nat := if checkP l = 0 then (layS l).1.ws else []
def laidN (l : List TV) : List (List UInt8) := if checkP l = 0 then (layS l).1.nm else []
def laidR (l : List TV) : List Nat := if checkP l = 0 then (layS l).2 else []
theorem hrd_nil (W : World) : HRd W none 0 0 none 0 0 none 0 0 [] [] [] := ⟨.inl rfl, .inl rfl, .inl rfl, rfl, rfl, rfl, ⟨Nat.le_refl _, by omega⟩, ⟨Nat.le_refl _, by omega⟩, ⟨Nat.le_refl _, by omega⟩, (fun x h => by cases h), (fun x h => by cases h)⟩
theorem lay_new {W : World} {l : List TV} {e : Ending} {w' : World} (h : LayEnds W l e w') {k1 k2 k3 : Nat} (h1 : (laidW l).length = k1) (h2 : (laidN l).length = k2) (h3 : (laidR l).length = k3) : HeapNewE W (checkP l) k1 k2 k3 (laidW l) (laidN l) (laidR l) e w' := by
  obtain ⟨hb, hq⟩ := h
  rcases hq with ⟨hne, rfl⟩ | ⟨h0, vw, va, vr, rfl, ho⟩
  · have e1 : laidW l = [] := if_neg hne
    have e2 : laidN l = [] := if_neg hne
    have e3 : laidR l = [] := if_neg hne
    rw [e1] at h1 ⊢
    rw [e2] at h2 ⊢
    rw [e3] at h3 ⊢
    subst h1 h2 h3
    exact ⟨hb, none, 0, none, 0, none, 0, rfl, hrd_nil _⟩
  · have hf := lay_facts h0
    have e1 : laidW l = (layS l).1.ws := if_pos h0
    have e2 : laidN l = (layS l).1.nm := if_pos h0
    have e3 : laidR l = (layS l).2 := if_pos h0
    rw [e1] at h1 ⊢
    rw [e2] at h2 ⊢
    rw [e3] at h3 ⊢
    have ow := ho.w
    have oa := ho.a
    have orr := ho.r
    rw [h1] at ow
    rw [h2] at oa
    rw [h3] at orr
    obtain ⟨Bw, dw, rfl⟩ := own_sl ow
    obtain ⟨Ba, da, rfl⟩ := own_sl oa
    obtain ⟨Br, dr, rfl⟩ := own_sl orr
    exact ⟨hb, Bw, dw, Ba, da, Br, dr, by rw [h0]; rfl, ho.hrd hf.w64 hf.r64 h1 h2 h3⟩
theorem laid_le (l : List TV) : (laidW l).length ≤ 1000000 ∧ (laidN l).length ≤ 1000000 ∧ (laidR l).length ≤ 1000000 := by
  unfold laidW laidN laidR
  by_cases h0 : checkP l = 0
  · have hf := lay_facts h0
    have hp := (hcheck_le h0).1
    have hl := len_parts l
    rw [if_pos h0, if_pos h0, if_pos h0]
    exact ⟨by have := hf.lw; omega, by have := hf.la; omega, by have := hf.lr; omega⟩
  · rw [if_neg h0, if_neg h0, if_neg h0]
    exact ⟨by simp, by simp, by simp⟩
def rdC (r : Except Nat (List TV)) : Nat := match r with
  | .error er => er
  | .ok _ => 0
def rdV (r : Except Nat (List TV)) : List TV := match r with
  | .error _ => []
  | .ok ts => ts
def ReadNewE (V : World) (ck n : Nat) (ts : List TV) (e : Ending) (w' : World) : Prop :=
  Below V.heap.size V w' ∧ ∃ A c, e = .returned (.tuple #[.slice A n c, .int .i64 (ck : Int)]) ∧ RdM w' A c ts
theorem read_new {W : World} {r : Except Nat (List TV)} {e : Ending} {w' : World} (h : ReadEnds W r e w') {n : Nat} (hn : (rdV r).length = n) : ReadNewE W (rdC r) n (rdV r) e w' := by
  obtain ⟨hb, h1, h2⟩ := h
  cases r with
  | error er =>
    obtain ⟨_, rfl⟩ := h1 er rfl
    have hn0 : 0 = n := hn
    subst hn0
    exact ⟨hb, none, 0, rfl, rdM_nil _ _ _ (by omega)⟩
  | ok ts =>
    obtain ⟨A, c, rfl, hL⟩ := h2 ts rfl
    obtain ⟨A', n', c', e9, h8, h9⟩ := hL.val
    obtain ⟨rfl, rfl, rfl⟩ := Value.slice.inj e9
    have hn1 : ts.length = n := hn
    exact ⟨hb, A, c, by rw [hn1]; rfl, h9⟩
theorem hcheck_e (W : World) (h : HRd W Aw lw cw Aa la ca Ar lr cr ws nm rs) : Calls Try.prog 21 #[.agg #[.slice Aw lw cw, .slice Aa la ca, .slice Ar lr cr]] W fun e W' => e = .returned (.int .i64 (rdC (readP ws nm rs) : Int)) ∧ Below W.heap.size W W' := by
  refine (hcheck_v W h).mono ?_
  rintro e w' ⟨rfl, hb⟩
  refine ⟨?_, hb⟩
  cases readP ws nm rs <;> rfl
theorem lays_sameH (ws rs : List Nat) (nm : List (List UInt8)) : sameH ws rs nm ws rs nm = true := by simp [sameH]
set_option maxRecDepth 100000 in
set_option maxHeartbeats 16000000 in
theorem lays_in (w : World) (hl : l.length = n1) (h1 : RdM w A1 c1 l) (hnm : TV.namedL l) (h : HRd w Aw lw cw Aa la ca Ar lr cr ws nm rs) (hs : ∀ s ∈ nm, s.length ≤ 140737488351232) :
    Calls Try.prog 4 #[.slice A1 n1 c1, .agg #[.slice Aw lw cw, .slice Aa la ca, .slice Ar lr cr]] w (Yes w) := by
  have HSM := Lib.hid (fun V (hV : Below w.heap.size w V) => small_v V (h.below hV) hs)
  have HCK := Lib.hid (fun V (hV : Below w.heap.size w V) => rcheck_any l A1 n1 c1 w V hl hnm hV h1)
  have HFT := Lib.hid (fun V (hV : Below w.heap.size w V) => fits_any l A1 n1 c1 600 w V hl (by omega) (by omega) hV h1)
  have HIN := Lib.hid (And.intro hl (And.intro h1 (And.intro hnm h)))
  clear hl h1 hnm h hs
  obtain ⟨g, hg⟩ : ∃ g, w.heap.size = g := ⟨_, rfl⟩
  have HG := Lib.hid hg
  by_cases q0 : 400 < n1
  · have d0 : decide ((400 : Int) < (n1 : Int)) = true := by (simp <;> omega)
    clear HIN
    go_enter Try.func4, Try.ntmps4
    go_upto_region 1 with (fail)
    refine wp_world (fun V => Below w.heap.size w V ∧ Blk V g 29 #[.slice Aw lw cw, .slice Aa la ca, .slice Ar lr cr]) ⟨below_alloc _ _, by rw [← HG.out]; exact Blk.new _ _ _⟩ ?_
    rintro V0 ⟨hb, hk⟩
    have HB := Lib.hid hb
    have HK := Lib.hid hk
    have x0 := hk.cell 0
    have x1 := hk.cell 1
    have x2 := hk.cell 2
    clear hb hk hg
    go_wp2_with (first
      | (go_at_call 8; (with_reducible refine (HCK.out _ HB.out).mono ?_); rintro e w1 ⟨rfl, hb⟩; have HB := Lib.hid (below_step HB.out hb); have hk := HK.out.keep hb; have HK := Lib.hid hk; have x0 := hk.cell 0; have x1 := hk.cell 1; have x2 := hk.cell 2; clear hb hk)
      | (go_at_call 9; (with_reducible refine (HFT.out _ HB.out).mono ?_); rintro e w1 ⟨rfl, hb⟩; have HB := Lib.hid (below_step HB.out hb); have hk := HK.out.keep hb; have HK := Lib.hid hk; have x0 := hk.cell 0; have x1 := hk.cell 1; have x2 := hk.cell 2; clear hb hk)
      | (go_at_call 14; refine (HSM.out _ HB.out).mono ?_; rintro e w1 ⟨rfl, hb⟩; have HB := Lib.hid (below_step HB.out hb); have hk := HK.out.keep hb; have HK := Lib.hid hk; have x0 := hk.cell 0; have x1 := hk.cell 1; have x2 := hk.cell 2; clear hb hk)
      | (go_at_call 10; refine (live_from HB.out).mono ?_; rintro e w9 ⟨rfl, hb9⟩))
    go_ret
    exact ⟨rfl, hb9⟩
  have d0 : decide ((400 : Int) < (n1 : Int)) = false := by (simp <;> omega)
  by_cases q1 : smallH ws nm rs = true
  rotate_left
  · rw [eq_false_of_ne_true q1] at HSM
    clear q1 HIN
    go_enter Try.func4, Try.ntmps4
    go_upto_region 1 with (fail)
    refine wp_world (fun V => Below w.heap.size w V ∧ Blk V g 29 #[.slice Aw lw cw, .slice Aa la ca, .slice Ar lr cr]) ⟨below_alloc _ _, by rw [← HG.out]; exact Blk.new _ _ _⟩ ?_
    rintro V0 ⟨hb, hk⟩
    have HB := Lib.hid hb
    have HK := Lib.hid hk
    have x0 := hk.cell 0
    have x1 := hk.cell 1
    have x2 := hk.cell 2
    clear hb hk hg
    go_wp2_with (first
      | (go_at_call 8; (with_reducible refine (HCK.out _ HB.out).mono ?_); rintro e w1 ⟨rfl, hb⟩; have HB := Lib.hid (below_step HB.out hb); have hk := HK.out.keep hb; have HK := Lib.hid hk; have x0 := hk.cell 0; have x1 := hk.cell 1; have x2 := hk.cell 2; clear hb hk)
      | (go_at_call 9; (with_reducible refine (HFT.out _ HB.out).mono ?_); rintro e w1 ⟨rfl, hb⟩; have HB := Lib.hid (below_step HB.out hb); have hk := HK.out.keep hb; have HK := Lib.hid hk; have x0 := hk.cell 0; have x1 := hk.cell 1; have x2 := hk.cell 2; clear hb hk)
      | (go_at_call 14; refine (HSM.out _ HB.out).mono ?_; rintro e w1 ⟨rfl, hb⟩; have HB := Lib.hid (below_step HB.out hb); have hk := HK.out.keep hb; have HK := Lib.hid hk; have x0 := hk.cell 0; have x1 := hk.cell 1; have x2 := hk.cell 2; clear hb hk)
      | (go_at_call 10; refine (live_from HB.out).mono ?_; rintro e w9 ⟨rfl, hb9⟩))
    go_ret
    exact ⟨rfl, hb9⟩
  rw [q1] at HSM
  have hsm : lw ≤ 5000 ∧ la ≤ 5000 ∧ lr ≤ 5000 := by
    unfold smallH at q1
    rw [decide_eq_true_eq] at q1
    obtain ⟨_, _, _, hH⟩ := HIN.out
    have e1 := hH.hlw
    have e2 := hH.hla
    have e3 := hH.hlr
    omega
  clear q1
  by_cases q2 : (TV.partsL l : Int) ≤ 600
  · rw [decide_eq_true q2] at HFT
    clear q2 HCK
    go_enter Try.func4, Try.ntmps4
    go_upto_region 1 with (fail)
    refine wp_world (fun V => Below w.heap.size w V ∧ Blk V g 29 #[.slice Aw lw cw, .slice Aa la ca, .slice Ar lr cr]) ⟨below_alloc _ _, by rw [← HG.out]; exact Blk.new _ _ _⟩ ?_
    rintro V0 ⟨hb, hk⟩
    have HB := Lib.hid hb
    have HK := Lib.hid hk
    have x0 := hk.cell 0
    have x1 := hk.cell 1
    have x2 := hk.cell 2
    clear hb hk hg
    obtain ⟨hl, h1, hnm, hH⟩ := HIN.out
    obtain ⟨cs1, hs1, hc1⟩ := rdM_std h1
    have HL1 := Lib.hid (show cs1.length = n1 * 4 by rw [hs1.1, hl])
    have HS1 := Lib.hid hs1
    have HC1 := Lib.hid hc1
    have HO1 := Lib.hid hs1.2.1
    have HLN := Lib.hid hl
    have HR1 := Lib.hid h1
    have HNM := Lib.hid hnm
    have HH := Lib.hid hH
    clear hs1 hc1 hl h1 hnm hH HIN
    obtain ⟨k1, hk1⟩ : ∃ k, (laidW l).length = k := ⟨_, rfl⟩
    obtain ⟨k2, hk2⟩ : ∃ k, (laidN l).length = k := ⟨_, rfl⟩
    obtain ⟨k3, hk3⟩ : ∃ k, (laidR l).length = k := ⟨_, rfl⟩
    obtain ⟨ck9, hck9⟩ : ∃ k, checkP l = k := ⟨_, rfl⟩
    obtain ⟨hk1b, hk2b, hk3b⟩ : k1 ≤ 1000000 ∧ k2 ≤ 1000000 ∧ k3 ≤ 1000000 := by rw [← hk1, ← hk2, ← hk3]; exact laid_le l
    obtain ⟨nr, hnr⟩ : ∃ k, (rdV (readP ws nm rs)).length = k := ⟨_, rfl⟩
    obtain ⟨ckr, hckr⟩ : ∃ k, rdC (readP ws nm rs) = k := ⟨_, rfl⟩
    have HKK := Lib.hid (And.intro hk1 (And.intro hk2 (And.intro hk3 hck9)))
    have HNR := Lib.hid (And.intro hnr hckr)
    have HLAY := Lib.hid (fun V A c (hR : RdM V A c l) => show Calls Try.prog 11 #[.slice A n1 c] V (HeapNewE V ck9 k1 k2 k3 (laidW l) (laidN l) (laidR l)) from by have h9 := (hlay_v l A n1 c V HLN.out HNM.out hR).mono (fun e w' h => lay_new h HKK.out.1 HKK.out.2.1 HKK.out.2.2.1); rw [HKK.out.2.2.2] at h9; exact h9)
    have HRLAY := Lib.hid (fun V A c (hR : RdM V A c l) => show Calls Try.prog 15 #[.slice A n1 c] V (HeapNewE V ck9 k1 k2 k3 (laidW l) (laidN l) (laidR l)) from by have h9 := (rlay_v l A n1 c V HLN.out HNM.out hR).mono (fun e w' h => lay_new h HKK.out.1 HKK.out.2.1 HKK.out.2.2.1); rw [HKK.out.2.2.2] at h9; exact h9)
    have HREAD := Lib.hid (fun V Aw cw Aa ca Ar cr (h : HRd V Aw lw cw Aa la ca Ar lr cr ws nm rs) => show Calls Try.prog 16 #[.agg #[.slice Aw lw cw, .slice Aa la ca, .slice Ar lr cr]] V (ReadNewE V ckr nr (rdV (readP ws nm rs))) from by have h9 := (hread_v V h).mono (fun e w' h => read_new h HNR.out.1); rw [HNR.out.2] at h9; exact h9)
    have HRREAD := Lib.hid (fun V Aw cw Aa ca Ar cr (h : HRd V Aw lw cw Aa la ca Ar lr cr ws nm rs) => show Calls Try.prog 18 #[.agg #[.slice Aw lw cw, .slice Aa la ca, .slice Ar lr cr]] V (ReadNewE V ckr nr (rdV (readP ws nm rs))) from by have h9 := (rread_v V h).mono (fun e w' h => read_new h HNR.out.1); rw [HNR.out.2] at h9; exact h9)
    have HCHK := Lib.hid (fun V Aw cw Aa ca Ar cr (h : HRd V Aw lw cw Aa la ca Ar lr cr ws nm rs) => show Calls Try.prog 21 #[.agg #[.slice Aw lw cw, .slice Aa la ca, .slice Ar lr cr]] V (fun e W' => e = .returned (.int .i64 (ckr : Int)) ∧ Below V.heap.size V W') from by have h9 := hcheck_e V h; rw [HNR.out.2] at h9; exact h9)
    have HOWN := Lib.hid (fun V (hV : Below w.heap.size w V) => own_v V (HH.out.below hV) (by omega) (by omega) (by omega))
    have HSAME := Lib.hid (fun (V : World) (Bw : Option Addr) (dw : Nat) (Ba : Option Addr) (da : Nat) (Br : Option Addr) (dr : Nat) (Cw : Option Addr) (ew : Nat) (Ca : Option Addr) (ea : Nat) (Cr : Option Addr) (er : Nat) (ha : HRd V Bw k1 dw Ba k2 da Br k3 dr (laidW l) (laidN l) (laidR l)) (hb : HRd V Cw k1 ew Ca k2 ea Cr k3 er (laidW l) (laidN l) (laidR l)) => (rSame_v V ha hb ⟨hk1b, hk2b, hk3b⟩ ⟨hk1b, hk2b, hk3b⟩).mono (fun e w' h9 => by rw [lays_sameH] at h9; exact h9))
    clear hk1 hk2 hk3 hck9 hnr hckr
    go_upto_region 3 with (first
      | (go_at_call 8; (with_reducible refine (HCK.out _ HB.out).mono ?_); rintro e w1 ⟨rfl, hb⟩; have HB := Lib.hid (below_step HB.out hb); have hk := HK.out.keep hb; have HK := Lib.hid hk; have x0 := hk.cell 0; have x1 := hk.cell 1; have x2 := hk.cell 2; clear hb hk)
      | (go_at_call 9; (with_reducible refine (HFT.out _ HB.out).mono ?_); rintro e w1 ⟨rfl, hb⟩; have HB := Lib.hid (below_step HB.out hb); have hk := HK.out.keep hb; have HK := Lib.hid hk; have x0 := hk.cell 0; have x1 := hk.cell 1; have x2 := hk.cell 2; clear hb hk)
      | (go_at_call 14; refine (HSM.out _ HB.out).mono ?_; rintro e w1 ⟨rfl, hb⟩; have HB := Lib.hid (below_step HB.out hb); have hk := HK.out.keep hb; have HK := Lib.hid hk; have x0 := hk.cell 0; have x1 := hk.cell 1; have x2 := hk.cell 2; clear hb hk)
      | (go_at_call 10; refine (live_from HB.out).mono ?_; rintro e w9 ⟨rfl, hb9⟩))
    refine wp_world (fun V => Below w.heap.size w V ∧ Blk V g 29 #[.slice Aw lw cw, .slice Aa la ca, .slice Ar lr cr]) ⟨HB.out, HK.out⟩ ?_
    clear HB HK HSM HFT  x0 x1 x2
    rintro V2 ⟨hb, hk⟩
    have HB := Lib.hid hb
    have HK := Lib.hid hk
    clear hb hk
    have hbV := Lib.hid (below_step HB.out (below_alloc V2 (.cells #[] 37)))
    have hszV := HB.out.size
    go_upto_region 4 with (first
      | (at_builtin; refine wpList_app termT rfl (.tmp 33) (.tmp 34) rfl V2.heap.size _ 0 [] rfl (World.ownsRow_lit V2 #[] 0 (Nat.le_refl _) (Nat.zero_le _) rfl) A1 n1 c1 cs1 rfl HL1.out (HC1.out.below hbV.out) HO1.out (by unfold maxLen; omega) (by omega) (by simp) ?_; intro v3 w3 ho3 hg3 hat3; have HB3 := Lib.hid (lit_below9 (below_alloc V2 _) hg3 (Nat.le_refl _)); rw [List.nil_append, Nat.zero_add] at ho3; have HLV3 := Lib.hid (lval_own9 ho3 (HS1.out.kept (Kept.of_below (HB.out.trans (HB3.out.mono HB.out.size))))); obtain ⟨A3, c3, rfl⟩ := own_sl ho3; have HLV3 : Hid (LVal w3 (.slice A3 n1 c3) l) := HLV3.out; clear ho3 hg3 hat3)
      | (go_at_call 11; refine (HLAY.out w3 A3 c3 HLV3.out.rdm9.1).mono ?_; rintro e w4 ⟨hb4, Bw, dw, Ba, da, Br, dr, rfl, hn4⟩; have HB4 := Lib.hid (HB3.out.trans (hb4.mono HB3.out.size)); have HN4 := Lib.hid hn4; clear hb4 hn4))
    obtain ⟨ga, hga⟩ : ∃ ga, w4.heap.size = ga := ⟨_, rfl⟩
    rw [hga]
    have hblA := Lib.hid (show Blk (w4.alloc (.cells #[.slice Bw k1 dw, .slice Ba k2 da, .slice Br k3 dr] 29)) ga 29 #[.slice Bw k1 dw, .slice Ba k2 da, .slice Br k3 dr] from Blk.newAt hga)
    have hfrA := Lib.hid (below_alloc w4 (.cells #[.slice Bw k1 dw, .slice Ba k2 da, .slice Br k3 dr] 29))
    refine wp_world (fun V => Below w.heap.size w V ∧ Blk V g 29 #[.slice Aw lw cw, .slice Aa la ca, .slice Ar lr cr] ∧ Blk V ga 29 #[.slice Bw k1 dw, .slice Ba k2 da, .slice Br k3 dr] ∧ HRd V Bw k1 dw Ba k2 da Br k3 dr (laidW l) (laidN l) (laidR l)) ⟨HB.out.trans ((HB4.out.trans (hfrA.out.mono HB4.out.size)).mono HB.out.size), (HK.out.keep HB4.out).keep hfrA.out, hblA.out, HN4.out.below hfrA.out⟩ ?_
    clear HB HK hblA hfrA HN4 HB4 HB3 HLV3 hbV hga hszV
    rintro V4 ⟨hb, hk, hka, hna⟩
    have HB := Lib.hid hb
    have HK := Lib.hid hk
    have HKA := Lib.hid hka
    have HNA := Lib.hid hna
    clear hb hk hka hna
    go_upto_region 5 with (go_at_call 15; refine (HRLAY.out V4 A1 c1 (HR1.out.below HB.out)).mono ?_; rintro e w5 ⟨hb5, Cw, ew, Ca, ea, Cr, er, rfl, hn5⟩; have HB5 := Lib.hid hb5; have HN5 := Lib.hid hn5; clear hb5 hn5)
    obtain ⟨gb, hgb⟩ : ∃ gb, w5.heap.size = gb := ⟨_, rfl⟩
    rw [hgb]
    have hblB := Lib.hid (show Blk (w5.alloc (.cells #[.slice Cw k1 ew, .slice Ca k2 ea, .slice Cr k3 er] 29)) gb 29 #[.slice Cw k1 ew, .slice Ca k2 ea, .slice Cr k3 er] from Blk.newAt hgb)
    have hfrB := Lib.hid (below_alloc w5 (.cells #[.slice Cw k1 ew, .slice Ca k2 ea, .slice Cr k3 er] 29))
    have hst := Lib.hid (HB5.out.trans (hfrB.out.mono HB5.out.size))
    refine wp_world (fun V => Below w.heap.size w V ∧ Blk V g 29 #[.slice Aw lw cw, .slice Aa la ca, .slice Ar lr cr] ∧ (Blk V ga 29 #[.slice Bw k1 dw, .slice Ba k2 da, .slice Br k3 dr] ∧ HRd V Bw k1 dw Ba k2 da Br k3 dr (laidW l) (laidN l) (laidR l)) ∧ Blk V gb 29 #[.slice Cw k1 ew, .slice Ca k2 ea, .slice Cr k3 er] ∧ HRd V Cw k1 ew Ca k2 ea Cr k3 er (laidW l) (laidN l) (laidR l)) ⟨HB.out.trans (hst.out.mono HB.out.size), HK.out.keep hst.out, ⟨HKA.out.keep hst.out, HNA.out.below hst.out⟩, hblB.out, HN5.out.below hfrB.out⟩ ?_
    clear HB HK HKA HNA hblB hfrB hst HN5 HB5 hgb
    rintro V5 ⟨hb, hk, ⟨hka, hna⟩, hkb, hnb⟩
    have HB := Lib.hid hb
    have HK := Lib.hid hk
    have HKA := Lib.hid hka
    have HNA := Lib.hid hna
    have HKB := Lib.hid hkb
    have HNB := Lib.hid hnb
    have x0 := hk.cell 0
    have x1 := hk.cell 1
    have x2 := hk.cell 2
    clear hb hk hka hna hkb hnb
    go_upto_region 6 with (first
      | (go_at_call 17; refine (HOWN.out V5 HB.out).mono ?_; rintro e w6 ⟨hb6, Dw, fw, Da, fa, Dr, fr, rfl, hn6⟩; have HB6 := Lib.hid hb6; have HN6 := Lib.hid hn6; clear hb6 hn6)
      | (go_at_call 16; refine (HREAD.out w6 _ _ _ _ _ _ HN6.out).mono ?_; rintro e w7 ⟨hb7, Ax, cx, rfl, hx⟩; have HB7 := Lib.hid (HB6.out.trans (hb7.mono HB6.out.size)); have HX := Lib.hid hx; clear hb7 hx))
    refine wp_world (fun V => Below w.heap.size w V ∧ Blk V g 29 #[.slice Aw lw cw, .slice Aa la ca, .slice Ar lr cr] ∧ (Blk V ga 29 #[.slice Bw k1 dw, .slice Ba k2 da, .slice Br k3 dr] ∧ HRd V Bw k1 dw Ba k2 da Br k3 dr (laidW l) (laidN l) (laidR l)) ∧ (Blk V gb 29 #[.slice Cw k1 ew, .slice Ca k2 ea, .slice Cr k3 er] ∧ HRd V Cw k1 ew Ca k2 ea Cr k3 er (laidW l) (laidN l) (laidR l)) ∧ RdM V Ax cx (rdV (readP ws nm rs))) ⟨HB.out.trans (HB7.out.mono HB.out.size), HK.out.keep HB7.out, ⟨HKA.out.keep HB7.out, HNA.out.below HB7.out⟩, ⟨HKB.out.keep HB7.out, HNB.out.below HB7.out⟩, HX.out⟩ ?_
    clear HB HK HKA HNA HKB HNB HX HB7 HB6 HN6 x0 x1 x2
    rintro V7 ⟨hb, hk, ⟨hka, hna⟩, ⟨hkb, hnb⟩, hx⟩
    have HB := Lib.hid hb
    have HK := Lib.hid hk
    have HKA := Lib.hid hka
    have HNA := Lib.hid hna
    have HKB := Lib.hid hkb
    have HNB := Lib.hid hnb
    have HX := Lib.hid hx
    have x0 := hk.cell 0
    have x1 := hk.cell 1
    have x2 := hk.cell 2
    clear hb hk hka hna hkb hnb hx
    go_upto_region 7 with (go_at_call 18; refine (HRREAD.out V7 _ _ _ _ _ _ (HH.out.below HB.out)).mono ?_; rintro e w8 ⟨hb8, Ay, cy, rfl, hy⟩; have HB8 := Lib.hid hb8; have HY := Lib.hid hy; clear hb8 hy)
    refine wp_world (fun V => Below w.heap.size w V ∧ Blk V g 29 #[.slice Aw lw cw, .slice Aa la ca, .slice Ar lr cr] ∧ (Blk V ga 29 #[.slice Bw k1 dw, .slice Ba k2 da, .slice Br k3 dr] ∧ HRd V Bw k1 dw Ba k2 da Br k3 dr (laidW l) (laidN l) (laidR l)) ∧ (Blk V gb 29 #[.slice Cw k1 ew, .slice Ca k2 ea, .slice Cr k3 er] ∧ HRd V Cw k1 ew Ca k2 ea Cr k3 er (laidW l) (laidN l) (laidR l)) ∧ RdM V Ax cx (rdV (readP ws nm rs)) ∧ RdM V Ay cy (rdV (readP ws nm rs))) ⟨HB.out.trans (HB8.out.mono HB.out.size), HK.out.keep HB8.out, ⟨HKA.out.keep HB8.out, HNA.out.below HB8.out⟩, ⟨HKB.out.keep HB8.out, HNB.out.below HB8.out⟩, HX.out.below HB8.out, HY.out⟩ ?_
    clear HB HK HKA HNA HKB HNB HX HY HB8 x0 x1 x2
    rintro V8 ⟨hb, hk, ⟨hka, hna⟩, ⟨hkb, hnb⟩, hx, hy⟩
    have HB := Lib.hid hb
    have HK := Lib.hid hk
    have x0 := hk.cell 0
    have x1 := hk.cell 1
    have x2 := hk.cell 2
    have a0 := hka.cell 0
    have a1 := hka.cell 1
    have a2 := hka.cell 2
    have b0 := hkb.cell 0
    have b1 := hkb.cell 1
    have b2 := hkb.cell 2
    have HSM9 := Lib.hid (HSAME.out V8 _ _ _ _ _ _ _ _ _ _ _ _ hna hnb)
    have HRW := Lib.hid (fun V (hV : Below V8.heap.size V8 V) => (rows_any _ _ Ax nr cx Ay nr cy V8 V HNR.out.1 HNR.out.1 hV hx hy).mono (fun e w' h9 => by rw [rowsB_self] at h9; exact h9))
    clear hb hk hka hna hkb hnb hx hy HSAME HLAY HRLAY HREAD HRREAD
    have HC : Hid (Below V8.heap.size V8 V8) := Below.refl _ _
    go_wp2_with (first
      | (go_at_call 19; refine HSM9.out.mono ?_; rintro e w9 ⟨rfl, hb9⟩; have HC := Lib.hid hb9; have hk := HK.out.keep HC.out; have x0 := hk.cell 0; have x1 := hk.cell 1; have x2 := hk.cell 2; clear hb9 hk)
      | (go_at_call 12; refine (hnum_v _ _).mono ?_; rintro e w9 ⟨rfl, rfl⟩)
      | (go_at_call 20; refine (HRW.out _ HC.out).mono ?_; rintro e w9 ⟨rfl, hb9⟩; have HC := Lib.hid (below_step HC.out hb9); have hk := HK.out.keep HC.out; have x0 := hk.cell 0; have x1 := hk.cell 1; have x2 := hk.cell 2; clear hb9 hk)
      | (go_at_call 17; refine (HOWN.out _ (HB.out.trans (HC.out.mono HB.out.size))).mono ?_; rintro e w9 ⟨hb9, Dw, fw, Da, fa, Dr, fr, rfl, hn9⟩; have HC := Lib.hid (below_step HC.out hb9); have HN9 := Lib.hid hn9; clear hb9 hn9)
      | (go_at_call 21; refine (HCHK.out _ _ _ _ _ _ _ HN9.out).mono ?_; rintro e w9 ⟨rfl, hb9⟩; have HC := Lib.hid (below_step HC.out hb9); clear hb9)
      | (go_at_call 10; refine (live_from (HB.out.trans (HC.out.mono HB.out.size))).mono ?_; rintro e w9 ⟨rfl, hb9⟩))
    go_ret
    exact ⟨rfl, hb9⟩
  · rw [decide_eq_false q2] at HFT
    by_cases q3 : checkP l = 0
    · rw [q3] at HCK
      clear q2 q3 HIN
      go_enter Try.func4, Try.ntmps4
      go_upto_region 1 with (fail)
      refine wp_world (fun V => Below w.heap.size w V ∧ Blk V g 29 #[.slice Aw lw cw, .slice Aa la ca, .slice Ar lr cr]) ⟨below_alloc _ _, by rw [← HG.out]; exact Blk.new _ _ _⟩ ?_
      rintro V0 ⟨hb, hk⟩
      have HB := Lib.hid hb
      have HK := Lib.hid hk
      have x0 := hk.cell 0
      have x1 := hk.cell 1
      have x2 := hk.cell 2
      clear hb hk hg
      go_wp2_with (first
      | (go_at_call 8; (with_reducible refine (HCK.out _ HB.out).mono ?_); rintro e w1 ⟨rfl, hb⟩; have HB := Lib.hid (below_step HB.out hb); have hk := HK.out.keep hb; have HK := Lib.hid hk; have x0 := hk.cell 0; have x1 := hk.cell 1; have x2 := hk.cell 2; clear hb hk)
      | (go_at_call 9; (with_reducible refine (HFT.out _ HB.out).mono ?_); rintro e w1 ⟨rfl, hb⟩; have HB := Lib.hid (below_step HB.out hb); have hk := HK.out.keep hb; have HK := Lib.hid hk; have x0 := hk.cell 0; have x1 := hk.cell 1; have x2 := hk.cell 2; clear hb hk)
      | (go_at_call 14; refine (HSM.out _ HB.out).mono ?_; rintro e w1 ⟨rfl, hb⟩; have HB := Lib.hid (below_step HB.out hb); have hk := HK.out.keep hb; have HK := Lib.hid hk; have x0 := hk.cell 0; have x1 := hk.cell 1; have x2 := hk.cell 2; clear hb hk)
      | (go_at_call 10; refine (live_from HB.out).mono ?_; rintro e w9 ⟨rfl, hb9⟩))
      go_ret
      exact ⟨rfl, hb9⟩
    · obtain ⟨ck, hce⟩ : ∃ ck, checkP l = ck := ⟨_, rfl⟩
      rw [hce] at HCK q3
      have d3 : ((ck : Int) == 0) = false := by simpa using q3
      clear q2 q3 hce
      go_enter Try.func4, Try.ntmps4
      go_upto_region 1 with (fail)
      refine wp_world (fun V => Below w.heap.size w V ∧ Blk V g 29 #[.slice Aw lw cw, .slice Aa la ca, .slice Ar lr cr]) ⟨below_alloc _ _, by rw [← HG.out]; exact Blk.new _ _ _⟩ ?_
      rintro V0 ⟨hb, hk⟩
      have HB := Lib.hid hb
      have HK := Lib.hid hk
      have x0 := hk.cell 0
      have x1 := hk.cell 1
      have x2 := hk.cell 2
      clear hb hk hg
      obtain ⟨hl, h1, hnm, hH⟩ := HIN.out
      obtain ⟨cs1, hs1, hc1⟩ := rdM_std h1
      have HL1 := Lib.hid (show cs1.length = n1 * 4 by rw [hs1.1, hl])
      have HS1 := Lib.hid hs1
      have HC1 := Lib.hid hc1
      have HO1 := Lib.hid hs1.2.1
      have HLN := Lib.hid hl
      have HR1 := Lib.hid h1
      have HNM := Lib.hid hnm
      have HH := Lib.hid hH
      clear hs1 hc1 hl h1 hnm hH HIN
      obtain ⟨k1, hk1⟩ : ∃ k, (laidW l).length = k := ⟨_, rfl⟩
      obtain ⟨k2, hk2⟩ : ∃ k, (laidN l).length = k := ⟨_, rfl⟩
      obtain ⟨k3, hk3⟩ : ∃ k, (laidR l).length = k := ⟨_, rfl⟩
      obtain ⟨ck9, hck9⟩ : ∃ k, checkP l = k := ⟨_, rfl⟩
      obtain ⟨hk1b, hk2b, hk3b⟩ : k1 ≤ 1000000 ∧ k2 ≤ 1000000 ∧ k3 ≤ 1000000 := by rw [← hk1, ← hk2, ← hk3]; exact laid_le l
      obtain ⟨nr, hnr⟩ : ∃ k, (rdV (readP ws nm rs)).length = k := ⟨_, rfl⟩
      obtain ⟨ckr, hckr⟩ : ∃ k, rdC (readP ws nm rs) = k := ⟨_, rfl⟩
      have HKK := Lib.hid (And.intro hk1 (And.intro hk2 (And.intro hk3 hck9)))
      have HNR := Lib.hid (And.intro hnr hckr)
      have HLAY := Lib.hid (fun V A c (hR : RdM V A c l) => show Calls Try.prog 11 #[.slice A n1 c] V (HeapNewE V ck9 k1 k2 k3 (laidW l) (laidN l) (laidR l)) from by have h9 := (hlay_v l A n1 c V HLN.out HNM.out hR).mono (fun e w' h => lay_new h HKK.out.1 HKK.out.2.1 HKK.out.2.2.1); rw [HKK.out.2.2.2] at h9; exact h9)
      have HRLAY := Lib.hid (fun V A c (hR : RdM V A c l) => show Calls Try.prog 15 #[.slice A n1 c] V (HeapNewE V ck9 k1 k2 k3 (laidW l) (laidN l) (laidR l)) from by have h9 := (rlay_v l A n1 c V HLN.out HNM.out hR).mono (fun e w' h => lay_new h HKK.out.1 HKK.out.2.1 HKK.out.2.2.1); rw [HKK.out.2.2.2] at h9; exact h9)
      have HREAD := Lib.hid (fun V Aw cw Aa ca Ar cr (h : HRd V Aw lw cw Aa la ca Ar lr cr ws nm rs) => show Calls Try.prog 16 #[.agg #[.slice Aw lw cw, .slice Aa la ca, .slice Ar lr cr]] V (ReadNewE V ckr nr (rdV (readP ws nm rs))) from by have h9 := (hread_v V h).mono (fun e w' h => read_new h HNR.out.1); rw [HNR.out.2] at h9; exact h9)
      have HRREAD := Lib.hid (fun V Aw cw Aa ca Ar cr (h : HRd V Aw lw cw Aa la ca Ar lr cr ws nm rs) => show Calls Try.prog 18 #[.agg #[.slice Aw lw cw, .slice Aa la ca, .slice Ar lr cr]] V (ReadNewE V ckr nr (rdV (readP ws nm rs))) from by have h9 := (rread_v V h).mono (fun e w' h => read_new h HNR.out.1); rw [HNR.out.2] at h9; exact h9)
      have HCHK := Lib.hid (fun V Aw cw Aa ca Ar cr (h : HRd V Aw lw cw Aa la ca Ar lr cr ws nm rs) => show Calls Try.prog 21 #[.agg #[.slice Aw lw cw, .slice Aa la ca, .slice Ar lr cr]] V (fun e W' => e = .returned (.int .i64 (ckr : Int)) ∧ Below V.heap.size V W') from by have h9 := hcheck_e V h; rw [HNR.out.2] at h9; exact h9)
      have HOWN := Lib.hid (fun V (hV : Below w.heap.size w V) => own_v V (HH.out.below hV) (by omega) (by omega) (by omega))
      have HSAME := Lib.hid (fun (V : World) (Bw : Option Addr) (dw : Nat) (Ba : Option Addr) (da : Nat) (Br : Option Addr) (dr : Nat) (Cw : Option Addr) (ew : Nat) (Ca : Option Addr) (ea : Nat) (Cr : Option Addr) (er : Nat) (ha : HRd V Bw k1 dw Ba k2 da Br k3 dr (laidW l) (laidN l) (laidR l)) (hb : HRd V Cw k1 ew Ca k2 ea Cr k3 er (laidW l) (laidN l) (laidR l)) => (rSame_v V ha hb ⟨hk1b, hk2b, hk3b⟩ ⟨hk1b, hk2b, hk3b⟩).mono (fun e w' h9 => by rw [lays_sameH] at h9; exact h9))
      clear hk1 hk2 hk3 hck9 hnr hckr
      go_upto_region 3 with (first
      | (go_at_call 8; (with_reducible refine (HCK.out _ HB.out).mono ?_); rintro e w1 ⟨rfl, hb⟩; have HB := Lib.hid (below_step HB.out hb); have hk := HK.out.keep hb; have HK := Lib.hid hk; have x0 := hk.cell 0; have x1 := hk.cell 1; have x2 := hk.cell 2; clear hb hk)
      | (go_at_call 9; (with_reducible refine (HFT.out _ HB.out).mono ?_); rintro e w1 ⟨rfl, hb⟩; have HB := Lib.hid (below_step HB.out hb); have hk := HK.out.keep hb; have HK := Lib.hid hk; have x0 := hk.cell 0; have x1 := hk.cell 1; have x2 := hk.cell 2; clear hb hk)
      | (go_at_call 14; refine (HSM.out _ HB.out).mono ?_; rintro e w1 ⟨rfl, hb⟩; have HB := Lib.hid (below_step HB.out hb); have hk := HK.out.keep hb; have HK := Lib.hid hk; have x0 := hk.cell 0; have x1 := hk.cell 1; have x2 := hk.cell 2; clear hb hk)
      | (go_at_call 10; refine (live_from HB.out).mono ?_; rintro e w9 ⟨rfl, hb9⟩))
      refine wp_world (fun V => Below w.heap.size w V ∧ Blk V g 29 #[.slice Aw lw cw, .slice Aa la ca, .slice Ar lr cr]) ⟨HB.out, HK.out⟩ ?_
      clear HB HK HSM HFT HCK d3 x0 x1 x2
      rintro V2 ⟨hb, hk⟩
      have HB := Lib.hid hb
      have HK := Lib.hid hk
      clear hb hk
      have hbV := Lib.hid (below_step HB.out (below_alloc V2 (.cells #[] 37)))
      have hszV := HB.out.size
      go_upto_region 4 with (first
        | (at_builtin; refine wpList_app termT rfl (.tmp 33) (.tmp 34) rfl V2.heap.size _ 0 [] rfl (World.ownsRow_lit V2 #[] 0 (Nat.le_refl _) (Nat.zero_le _) rfl) A1 n1 c1 cs1 rfl HL1.out (HC1.out.below hbV.out) HO1.out (by unfold maxLen; omega) (by omega) (by simp) ?_; intro v3 w3 ho3 hg3 hat3; have HB3 := Lib.hid (lit_below9 (below_alloc V2 _) hg3 (Nat.le_refl _)); rw [List.nil_append, Nat.zero_add] at ho3; have HLV3 := Lib.hid (lval_own9 ho3 (HS1.out.kept (Kept.of_below (HB.out.trans (HB3.out.mono HB.out.size))))); obtain ⟨A3, c3, rfl⟩ := own_sl ho3; have HLV3 : Hid (LVal w3 (.slice A3 n1 c3) l) := HLV3.out; clear ho3 hg3 hat3)
        | (go_at_call 11; refine (HLAY.out w3 A3 c3 HLV3.out.rdm9.1).mono ?_; rintro e w4 ⟨hb4, Bw, dw, Ba, da, Br, dr, rfl, hn4⟩; have HB4 := Lib.hid (HB3.out.trans (hb4.mono HB3.out.size)); have HN4 := Lib.hid hn4; clear hb4 hn4))
      obtain ⟨ga, hga⟩ : ∃ ga, w4.heap.size = ga := ⟨_, rfl⟩
      rw [hga]
      have hblA := Lib.hid (show Blk (w4.alloc (.cells #[.slice Bw k1 dw, .slice Ba k2 da, .slice Br k3 dr] 29)) ga 29 #[.slice Bw k1 dw, .slice Ba k2 da, .slice Br k3 dr] from Blk.newAt hga)
      have hfrA := Lib.hid (below_alloc w4 (.cells #[.slice Bw k1 dw, .slice Ba k2 da, .slice Br k3 dr] 29))
      refine wp_world (fun V => Below w.heap.size w V ∧ Blk V g 29 #[.slice Aw lw cw, .slice Aa la ca, .slice Ar lr cr] ∧ Blk V ga 29 #[.slice Bw k1 dw, .slice Ba k2 da, .slice Br k3 dr] ∧ HRd V Bw k1 dw Ba k2 da Br k3 dr (laidW l) (laidN l) (laidR l)) ⟨HB.out.trans ((HB4.out.trans (hfrA.out.mono HB4.out.size)).mono HB.out.size), (HK.out.keep HB4.out).keep hfrA.out, hblA.out, HN4.out.below hfrA.out⟩ ?_
      clear HB HK hblA hfrA HN4 HB4 HB3 HLV3 hbV hga hszV
      rintro V4 ⟨hb, hk, hka, hna⟩
      have HB := Lib.hid hb
      have HK := Lib.hid hk
      have HKA := Lib.hid hka
      have HNA := Lib.hid hna
      clear hb hk hka hna
      go_upto_region 5 with (go_at_call 15; refine (HRLAY.out V4 A1 c1 (HR1.out.below HB.out)).mono ?_; rintro e w5 ⟨hb5, Cw, ew, Ca, ea, Cr, er, rfl, hn5⟩; have HB5 := Lib.hid hb5; have HN5 := Lib.hid hn5; clear hb5 hn5)
      obtain ⟨gb, hgb⟩ : ∃ gb, w5.heap.size = gb := ⟨_, rfl⟩
      rw [hgb]
      have hblB := Lib.hid (show Blk (w5.alloc (.cells #[.slice Cw k1 ew, .slice Ca k2 ea, .slice Cr k3 er] 29)) gb 29 #[.slice Cw k1 ew, .slice Ca k2 ea, .slice Cr k3 er] from Blk.newAt hgb)
      have hfrB := Lib.hid (below_alloc w5 (.cells #[.slice Cw k1 ew, .slice Ca k2 ea, .slice Cr k3 er] 29))
      have hst := Lib.hid (HB5.out.trans (hfrB.out.mono HB5.out.size))
      refine wp_world (fun V => Below w.heap.size w V ∧ Blk V g 29 #[.slice Aw lw cw, .slice Aa la ca, .slice Ar lr cr] ∧ (Blk V ga 29 #[.slice Bw k1 dw, .slice Ba k2 da, .slice Br k3 dr] ∧ HRd V Bw k1 dw Ba k2 da Br k3 dr (laidW l) (laidN l) (laidR l)) ∧ Blk V gb 29 #[.slice Cw k1 ew, .slice Ca k2 ea, .slice Cr k3 er] ∧ HRd V Cw k1 ew Ca k2 ea Cr k3 er (laidW l) (laidN l) (laidR l)) ⟨HB.out.trans (hst.out.mono HB.out.size), HK.out.keep hst.out, ⟨HKA.out.keep hst.out, HNA.out.below hst.out⟩, hblB.out, HN5.out.below hfrB.out⟩ ?_
      clear HB HK HKA HNA hblB hfrB hst HN5 HB5 hgb
      rintro V5 ⟨hb, hk, ⟨hka, hna⟩, hkb, hnb⟩
      have HB := Lib.hid hb
      have HK := Lib.hid hk
      have HKA := Lib.hid hka
      have HNA := Lib.hid hna
      have HKB := Lib.hid hkb
      have HNB := Lib.hid hnb
      have x0 := hk.cell 0
      have x1 := hk.cell 1
      have x2 := hk.cell 2
      clear hb hk hka hna hkb hnb
      go_upto_region 6 with (first
        | (go_at_call 17; refine (HOWN.out V5 HB.out).mono ?_; rintro e w6 ⟨hb6, Dw, fw, Da, fa, Dr, fr, rfl, hn6⟩; have HB6 := Lib.hid hb6; have HN6 := Lib.hid hn6; clear hb6 hn6)
        | (go_at_call 16; refine (HREAD.out w6 _ _ _ _ _ _ HN6.out).mono ?_; rintro e w7 ⟨hb7, Ax, cx, rfl, hx⟩; have HB7 := Lib.hid (HB6.out.trans (hb7.mono HB6.out.size)); have HX := Lib.hid hx; clear hb7 hx))
      refine wp_world (fun V => Below w.heap.size w V ∧ Blk V g 29 #[.slice Aw lw cw, .slice Aa la ca, .slice Ar lr cr] ∧ (Blk V ga 29 #[.slice Bw k1 dw, .slice Ba k2 da, .slice Br k3 dr] ∧ HRd V Bw k1 dw Ba k2 da Br k3 dr (laidW l) (laidN l) (laidR l)) ∧ (Blk V gb 29 #[.slice Cw k1 ew, .slice Ca k2 ea, .slice Cr k3 er] ∧ HRd V Cw k1 ew Ca k2 ea Cr k3 er (laidW l) (laidN l) (laidR l)) ∧ RdM V Ax cx (rdV (readP ws nm rs))) ⟨HB.out.trans (HB7.out.mono HB.out.size), HK.out.keep HB7.out, ⟨HKA.out.keep HB7.out, HNA.out.below HB7.out⟩, ⟨HKB.out.keep HB7.out, HNB.out.below HB7.out⟩, HX.out⟩ ?_
      clear HB HK HKA HNA HKB HNB HX HB7 HB6 HN6 x0 x1 x2
      rintro V7 ⟨hb, hk, ⟨hka, hna⟩, ⟨hkb, hnb⟩, hx⟩
      have HB := Lib.hid hb
      have HK := Lib.hid hk
      have HKA := Lib.hid hka
      have HNA := Lib.hid hna
      have HKB := Lib.hid hkb
      have HNB := Lib.hid hnb
      have HX := Lib.hid hx
      have x0 := hk.cell 0
      have x1 := hk.cell 1
      have x2 := hk.cell 2
      clear hb hk hka hna hkb hnb hx
      go_upto_region 7 with (go_at_call 18; refine (HRREAD.out V7 _ _ _ _ _ _ (HH.out.below HB.out)).mono ?_; rintro e w8 ⟨hb8, Ay, cy, rfl, hy⟩; have HB8 := Lib.hid hb8; have HY := Lib.hid hy; clear hb8 hy)
      refine wp_world (fun V => Below w.heap.size w V ∧ Blk V g 29 #[.slice Aw lw cw, .slice Aa la ca, .slice Ar lr cr] ∧ (Blk V ga 29 #[.slice Bw k1 dw, .slice Ba k2 da, .slice Br k3 dr] ∧ HRd V Bw k1 dw Ba k2 da Br k3 dr (laidW l) (laidN l) (laidR l)) ∧ (Blk V gb 29 #[.slice Cw k1 ew, .slice Ca k2 ea, .slice Cr k3 er] ∧ HRd V Cw k1 ew Ca k2 ea Cr k3 er (laidW l) (laidN l) (laidR l)) ∧ RdM V Ax cx (rdV (readP ws nm rs)) ∧ RdM V Ay cy (rdV (readP ws nm rs))) ⟨HB.out.trans (HB8.out.mono HB.out.size), HK.out.keep HB8.out, ⟨HKA.out.keep HB8.out, HNA.out.below HB8.out⟩, ⟨HKB.out.keep HB8.out, HNB.out.below HB8.out⟩, HX.out.below HB8.out, HY.out⟩ ?_
      clear HB HK HKA HNA HKB HNB HX HY HB8 x0 x1 x2
      rintro V8 ⟨hb, hk, ⟨hka, hna⟩, ⟨hkb, hnb⟩, hx, hy⟩
      have HB := Lib.hid hb
      have HK := Lib.hid hk
      have x0 := hk.cell 0
      have x1 := hk.cell 1
      have x2 := hk.cell 2
      have a0 := hka.cell 0
      have a1 := hka.cell 1
      have a2 := hka.cell 2
      have b0 := hkb.cell 0
      have b1 := hkb.cell 1
      have b2 := hkb.cell 2
      have HSM9 := Lib.hid (HSAME.out V8 _ _ _ _ _ _ _ _ _ _ _ _ hna hnb)
      have HRW := Lib.hid (fun V (hV : Below V8.heap.size V8 V) => (rows_any _ _ Ax nr cx Ay nr cy V8 V HNR.out.1 HNR.out.1 hV hx hy).mono (fun e w' h9 => by rw [rowsB_self] at h9; exact h9))
      clear hb hk hka hna hkb hnb hx hy HSAME HLAY HRLAY HREAD HRREAD
      have HC : Hid (Below V8.heap.size V8 V8) := Below.refl _ _
      go_wp2_with (first
        | (go_at_call 19; refine HSM9.out.mono ?_; rintro e w9 ⟨rfl, hb9⟩; have HC := Lib.hid hb9; have hk := HK.out.keep HC.out; have x0 := hk.cell 0; have x1 := hk.cell 1; have x2 := hk.cell 2; clear hb9 hk)
        | (go_at_call 12; refine (hnum_v _ _).mono ?_; rintro e w9 ⟨rfl, rfl⟩)
        | (go_at_call 20; refine (HRW.out _ HC.out).mono ?_; rintro e w9 ⟨rfl, hb9⟩; have HC := Lib.hid (below_step HC.out hb9); have hk := HK.out.keep HC.out; have x0 := hk.cell 0; have x1 := hk.cell 1; have x2 := hk.cell 2; clear hb9 hk)
        | (go_at_call 17; refine (HOWN.out _ (HB.out.trans (HC.out.mono HB.out.size))).mono ?_; rintro e w9 ⟨hb9, Dw, fw, Da, fa, Dr, fr, rfl, hn9⟩; have HC := Lib.hid (below_step HC.out hb9); have HN9 := Lib.hid hn9; clear hb9 hn9)
        | (go_at_call 21; refine (HCHK.out _ _ _ _ _ _ _ HN9.out).mono ?_; rintro e w9 ⟨rfl, hb9⟩; have HC := Lib.hid (below_step HC.out hb9); clear hb9)
        | (go_at_call 10; refine (live_from (HB.out.trans (HC.out.mono HB.out.size))).mono ?_; rintro e w9 ⟨rfl, hb9⟩))
      go_ret
      exact ⟨rfl, hb9⟩
end
end Go.Proofs.Ytefnjplfemgibaa
