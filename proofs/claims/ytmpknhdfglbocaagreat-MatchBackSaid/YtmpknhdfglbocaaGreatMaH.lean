/- Layer 13: rows of bindings in memory. No function of the program is named here. Layer 13: the walk of the program's All. Written by mageng.py. Layer 13: the keys of a scope, sorted; the walks of the program's Match and Get. -/
import Derived.Test.YtmpknhdfglbocaaGreatMaE
import Derived.Test.YtmpknhdfglbocaaGreatIter
namespace Go.Proofs.YtmpknhdfglbocaaGreat
section
open Go.RowKit
set_option linter.unusedVariables false

section
variable {w0 : World}
/-- A binding's five cells. -/
def bc (q : BG (TE w0)) : List Value := [.string ⟨q.1.toArray⟩, .int .i64 q.2.t.kind, .int .i64 q.2.t.int, .string ⟨q.2.t.name.toArray⟩, .slice q.2.A q.2.t.items.length q.2.c]
theorem bc_len (q : BG (TE w0)) : (bc q).length = 5 := rfl
theorem bc_one (q : BG (TE w0)) : ∀ u ∈ bc q, u.oneCell' = true := by
  intro u hu
  simp only [bc, List.mem_cons, List.mem_nil_iff, or_false] at hu
  rcases hu with rfl | rfl | rfl | rfl | rfl <;> rfl
abbrev bL (E : List (BG (TE w0))) : List Value := flat bc E
/-- A slice reads as these bindings. -/
def RdB (W : World) (A : Option Addr) (c : Nat) (E : List (BG (TE w0))) : Prop := E.length ≤ c ∧ c ≤ 9223372036854775807 ∧ (E = [] ∨ ∃ b o, A = some ⟨b, o, none⟩ ∧ ∀ j u, (bL E)[j]? = some u → W.cell? ⟨b, o + j, none⟩ = some u)
variable {W W' : World} {A : Option Addr} {c : Nat} {E : List (BG (TE w0))}
theorem RdB.below (h : RdB W A c E) (hb : Below W.heap.size W W') : RdB W' A c E := by
  refine ⟨h.1, h.2.1, ?_⟩
  rcases h.2.2 with h | ⟨b, o, hA, hc⟩
  · exact .inl h
  · exact .inr ⟨b, o, hA, fun j u hu => (hb.cell (World.block_lt_of_cell? W _ (hc j u hu))).trans (hc j u hu)⟩
theorem RdB.nil_ {c : Nat} (hc : c ≤ 9223372036854775807) : RdB (w0 := w0) W A c [] := ⟨Nat.zero_le _, hc, .inl rfl⟩
theorem RdB.item (h : RdB W A c E) {k : Nat} (hk : k < E.length) : ∃ b o, A = some ⟨b, o, none⟩ ∧ W.cell? ⟨b, o + k * 5, none⟩ = some (.string ⟨E[k].1.toArray⟩) ∧ W.cell? ⟨b, o + k * 5 + 1, none⟩ = some (.int .i64 E[k].2.t.kind) ∧ W.cell? ⟨b, o + k * 5 + 2, none⟩ = some (.int .i64 E[k].2.t.int) ∧ W.cell? ⟨b, o + k * 5 + 3, none⟩ = some (.string ⟨E[k].2.t.name.toArray⟩) ∧ W.cell? ⟨b, o + k * 5 + 4, none⟩ = some (.slice E[k].2.A E[k].2.t.items.length E[k].2.c) := by
  rcases h.2.2 with rfl | ⟨b, o, hA, hr⟩
  · simp at hk
  · have hc : ∀ i u, i < 5 → (bc E[k])[i]? = some u → W.cell? ⟨b, o + k * 5 + i, none⟩ = some u := fun i u hi hu => by
      rw [Nat.add_assoc]
      exact hr _ u ((flat_at bc_len E k i hk hi).trans hu)
    exact ⟨b, o, hA, hc 0 _ (by omega) rfl, hc 1 _ (by omega) rfl, hc 2 _ (by omega) rfl, hc 3 _ (by omega) rfl, hc 4 _ (by omega) rfl⟩
/-- A row of the call's own reads as its bindings. -/
theorem rdb_of_own {base n cap : Nat} (ho : W.ownsRow base 52 5 (.slice A n cap) n (bL E)) (hn : E.length = n) : RdB W A cap E := by
  rcases ho.2 with ⟨hv, hz⟩ | ⟨g, cap', cur, hv, _, hg, hnc, hcm, _, _⟩
  · obtain ⟨rfl, _, rfl⟩ := Value.slice.inj hv
    obtain rfl : E = [] := List.eq_nil_of_length_eq_zero (by omega)
    exact RdB.nil_ (by omega)
  · obtain ⟨rfl, _, rfl⟩ := Value.slice.inj hv
    refine ⟨by omega, by unfold maxLen at hcm; omega, .inr ⟨g, 0, rfl, fun j u hu => ?_⟩⟩
    have := ho.cells (g := g) rfl j u hu
    rwa [Addr.add_lit] at this
theorem RdB.cs (h : RdB W A c E) : Cs W A (bL E) := by
  rcases h.2.2 with rfl | ⟨b, o, hA, hc⟩
  · exact .inl rfl
  · exact cs_off hA hc
end
theorem bL_snoc {w0 : World} (E : List (BG (TE w0))) (q : BG (TE w0)) : bL (E ++ [q]) = bL E ++ bc q := by
  show flat bc _ = flat bc _ ++ _
  rw [flat_append, flat_one]
theorem bL_nil {w0 : World} : bL ([] : List (BG (TE w0))) = [] := rfl
theorem bindT : ElT Tryz.prog 23 52 (.agg #[.string ⟨#[]⟩, .int .i64 0, .int .i64 0, .string ⟨#[]⟩, .slice none 0 0]) 5 72 := ⟨Tryz.underlying23, by kernel_rfl, rfl, by omega⟩
/-- In a later world. -/
def TE.up {w0 w1 : World} (h : Below w0.heap.size w0 w1) (e : TE w0) : TE w1 := ⟨e.t, e.A, e.c, e.ok.below h⟩
def upE {w0 w1 : World} (h : Below w0.heap.size w0 w1) (E : List (BG (TE w0))) : List (BG (TE w1)) := E.map fun q => (q.1, q.2.up h)
theorem vE_up {w0 w1 : World} (h : Below w0.heap.size w0 w1) (E : List (BG (TE w0))) : vE (upE h E) = vE E := by
  unfold vE upE
  rw [List.map_map]
  rfl
theorem bL_up {w0 w1 : World} (h : Below w0.heap.size w0 w1) (E : List (BG (TE w0))) : bL (upE h E) = bL E := by
  unfold upE
  induction E with
  | nil => rfl
  | cons q r ih =>
    show flat bc _ = flat bc _
    rw [List.map_cons, flat_cons, flat_cons]
    exact congrArg _ ih
theorem RdB.up {w0 w1 W : World} {A : Option Addr} {c : Nat} {E : List (BG (TE w0))} (h : RdB W A c E) (hb : Below w0.heap.size w0 w1) : RdB W A c (upE hb E) := by
  unfold RdB
  rw [bL_up]
  refine ⟨by simpa [upE] using h.1, h.2.1, ?_⟩
  rcases h.2.2 with rfl | h
  · exact .inl rfl
  · exact .inr h
theorem upE_len {w0 w1 : World} (h : Below w0.heap.size w0 w1) (E : List (BG (TE w0))) : (upE h E).length = E.length := by simp [upE]
theorem upE_names {w0 w1 : World} (h : Below w0.heap.size w0 w1) {E : List (BG (TE w0))} {K : List (List UInt8)} (hE : ∀ q ∈ E, q.1 ∈ K) : ∀ q ∈ upE h E, q.1 ∈ K := fun q hq => by
  obtain ⟨p, hp, rfl⟩ := List.mem_map.1 hq
  exact hE p hp
theorem vE_len {w0 : World} (E : List (BG (TE w0))) : (vE E).length = E.length := by simp [vE]
theorem risG_vE {w0 : World} (E : List (BG (TE w0))) : risG (vE E) = vE (risG E) := risG_map (fun e : TE w0 => e.t) E
end
section
open Go.RowKit
set_option linter.unusedVariables false

/-- How All ends. -/
def AllEnd (W : World) (r : Option (List BV)) (e : Ending) (w' : World) : Prop :=
  ∃ (A : Option Addr) (c : Nat) (E : List (BG (TE w'))), e = .returned (.tuple #[.slice A E.length c, .bool r.isSome]) ∧ vE E = r.getD [] ∧ RdB w' A c E ∧ Below W.heap.size W w'
theorem AllEnd.none_ {W w' : World} (hb : Below W.heap.size W w') : AllEnd W none (.returned (.tuple #[.slice none 0 0, .bool false])) w' := ⟨none, 0, [], rfl, rfl, RdB.nil_ (Nat.zero_le _), hb⟩
/-- Names, in new memory. -/
def KeyN (B : Nat) (V : World) (A : Option Addr) (l : List (List UInt8)) : Prop := ∀ j, (hj : j < l.length) → ∃ g, A = some ⟨g, 0, none⟩ ∧ B ≤ g ∧ V.cell? ⟨g, j, none⟩ = some (.string ⟨(l[j]).toArray⟩)
def KeysOk : Prop := ∀ (mb : Option Nat) (V : World), Calls Tryz.prog 31 #[.map mb] V fun e w' => e = .returned (.func (.func 52) #[] #[.pointer (some ⟨V.heap.size, 0, none⟩)]) ∧ w' = V.alloc (.cells #[.map mb] 65)
def SortedOk (w0 : World) : Prop := ∀ (V : World) (b : Nat) (L : List (BG (TE w0))), SM V b L → L.length ≤ 1000000 →
    Calls Tryz.prog 30 #[.func (.func 52) #[] #[.pointer (some ⟨V.heap.size, 0, none⟩)]] (V.alloc (.cells #[.map (some b)] 65)) fun e w' => ∃ A c, e = .returned (.slice A L.length c) ∧ KeyN V.heap.size w' A (L.map (·.1)) ∧ Below V.heap.size V w'
/-- The scope, beside what was there. -/
structure SX (W : World) (b : Nat) (E : List (BG (TE W))) (V : World) : Prop where
  sm : SM V b (risG E)
  hb : W.heap.size ≤ b
  bel : Below W.heap.size W V
section
variable {W V V' : World} {b : Nat} {E E' : List (BG (TE W))} {K : List (List UInt8)}
theorem SX.keep (h : SX W b E V) (hb : Below V.heap.size V V') : SX W b E V' := ⟨h.sm.keep hb, h.hb, below_step h.bel hb⟩
theorem SX.act (h : SX W b E V) (hs : SM V' b (risG E')) (hf : Fr (fun k => k = b) V V') : SX W b E' V' := ⟨hs, h.hb, h.bel.trans (hf.below h.bel.size (fun k hk => by have := h.hb; omega))⟩
theorem own_shape {V : World} {B e z : Nat} {v : Value} {n : Nat} {xs : List Value} (h : V.ownsRow B e z v n xs) : ∃ A c, v = .slice A n c := by
  rcases h.2 with ⟨rfl, rfl⟩ | ⟨g, cap, cur, rfl, _⟩
  · exact ⟨none, 0, rfl⟩
  · exact ⟨_, cap, rfl⟩
theorem bc_cs {w0 V : World} (g : Nat) (q : BG (TE w0)) (h : Blk V g 52 #[.string ⟨q.1.toArray⟩, .int .i64 q.2.t.kind, .int .i64 q.2.t.int, .string ⟨q.2.t.name.toArray⟩, .slice q.2.A q.2.t.items.length q.2.c]) : Cs V (some ⟨g, 0, none⟩) (bc q) := by
  refine .inr ⟨_, rfl, fun j w hj => ?_⟩
  rw [Addr.add_lit, Nat.zero_add, h.cell j]
  simpa [bc] using hj
theorem isL_at {l : List TV} (h : TV.isL l = true) {k : Nat} (hk : k < l.length) : l[k].isT = true := by
  cases hi : l[k].isT with
  | true => rfl
  | false => rw [isL_no l k hk hi] at h; cases h

set_option maxRecDepth 100000 in
set_option maxHeartbeats 8000000 in
theorem mall_any (HKY : KeysOk) (HSO : ∀ w0, SortedOk w0) (W : World) (ps : List ND) (ts : List TV) (E : List (BG (TE W))) (A B D : Option Addr) (c d e : Nat) (hR : RdN NoB W A c ps) (hT : RdM W B d ts) (hB : RdB W D e E)
    (hnm : ND.allL (fun s => s ∈ K) ps) (hts : TV.isL ts = true) (hE : ∀ q ∈ E, q.1 ∈ K) (hK1 : ∀ s ∈ K, s.length ≤ 1000000) (hK2 : K.length ≤ 1000000) :
    Calls Tryz.prog 10 #[.slice A ps.length c, .slice B ts.length d, .slice D E.length e] W (AllEnd W (allP ps ts (vE E))) := by
  have HCF : Hid (∀ V, Below W.heap.size W V → Calls Tryz.prog 26 #[.slice A ps.length c, .func (.func 27) #[] #[]] V fun e w' => e = .returned (.bool (!patL ps)) ∧ Below V.heap.size V w') := fun V hV =>
    idx_all ps A _ c V rfl (hR.below hV) fun k h y V2 hy hV2 hyo => clo_all y V2 fun V3 hV3 => mpat_any _ y V3 (Nat.le_refl _) (hyo.below hV3)
  have HR := Lib.hid hR
  have HT := Lib.hid hT
  have HB := Lib.hid hB
  have HK1 := Lib.hid hK1
  have HK2 := Lib.hid hK2
  have HE := Lib.hid hE
  have HNM := Lib.hid hnm
  have HTS := Lib.hid hts
  have HKY := Lib.hid HKY
  have HSO := Lib.hid (HSO W)
  have hlc := hR.1
  have hlc2 := hR.2.1
  have hld := hT.1
  have hld2 := hT.2.1
  have hle := hB.1
  have hle2 := hB.2.1
  obtain ⟨FIN, hFIN⟩ : ∃ FIN, allP ps ts (vE E) = FIN := ⟨_, rfl⟩
  rw [hFIN]
  have HFIN := Lib.hid hFIN
  obtain ⟨np, hnp⟩ : ∃ np, ps.length = np := ⟨_, rfl⟩
  obtain ⟨nt, hnt⟩ : ∃ nt, ts.length = nt := ⟨_, rfl⟩
  obtain ⟨ne, hne⟩ : ∃ ne, E.length = ne := ⟨_, rfl⟩
  have HNP := Lib.hid hnp
  have HNT := Lib.hid hnt
  have HNE := Lib.hid hne
  rw [hnp] at hlc HCF ⊢
  rw [hnt] at hld ⊢
  rw [hne] at hle ⊢
  clear hR hT hB hK1 hK2 hE hnm hts hFIN hnp hnt hne
  by_cases h1 : np = nt
  rotate_left
  · have d1 : ((np : Int) != (nt : Int)) = true := by simp; omega
    have HF2 := Lib.hid (show FIN = none from by rw [← HFIN.out]; unfold allP; rw [if_neg (fun h9 => h1 (by have := h9.1; have := HNP.out; have := HNT.out; omega))])
    clear h1
    go_enter Tryz.func10, Tryz.ntmps10
    go_wp2
    refine bodyPost_ret (v := .tuple #[.slice none 0 0, .bool false]) (by simp [results, Tryz.results10, go_sem]) rfl ?_
    rw [HF2.out]
    exact AllEnd.none_ (Below.refl _ _)
  subst h1
  have d1 : ((np : Int) != (np : Int)) = false := by simp
  cases hp : patL ps with
  | false =>
    rw [hp] at HCF
    have HF2 := Lib.hid (show FIN = none from by rw [← HFIN.out]; unfold allP; rw [if_neg (fun h9 => by rw [hp] at h9; cases h9.2)])
    go_enter Tryz.func10, Tryz.ntmps10
    go_wp2_with (go_at_call 26; refine (HCF.out _ (Below.refl _ _)).mono ?_; rintro r w5 ⟨rfl, hb5⟩)
    refine bodyPost_ret (v := .tuple #[.slice none 0 0, .bool false]) (by simp [results, Tryz.results10, go_sem]) rfl ?_
    rw [HF2.out]
    exact AllEnd.none_ hb5
  | true =>
  rw [hp] at HCF
  have HPA := Lib.hid hp
  have HF2 : Hid (FIN = if (matchL ps ts (vE E)).2 then some (risG (matchL ps ts (vE E)).1) else none) := by
    unfold Hid
    rw [← HFIN.out]
    unfold allP
    rw [if_pos ⟨by have := HNP.out; have := HNT.out; omega, hp⟩]
  clear hp HFIN
  have hmm := @run_makeMap Tryz.prog
  go_enter Tryz.func10, Tryz.ntmps10
  go_upto_region 4 with (go_at_call 26; refine (HCF.out _ (Below.refl _ _)).mono ?_; rintro r w5 ⟨rfl, hb5⟩)
  obtain ⟨b, hb⟩ : ∃ b, w5.heap.size = b := ⟨_, rfl⟩
  have HS0 : Hid (SX W b [] (w5.alloc (.map #[] 0))) := by rw [← hb]; exact ⟨SM.made w5, hb5.size, below_step hb5 (below_alloc _ _)⟩
  rw [hb]
  refine wp_world (fun V => SX W b [] V) HS0.out ?_
  clear hmm HS0 hb hb5 HCF d1
  intro V0 hV0
  have HV0 := Lib.hid hV0
  clear hV0
  go_upto_region 5 with (fail)
  go_loopw [27] (fun i wr => ∃ k : Nat, k ≤ ne ∧ i = .int .i64 k ∧ SX W b (E.take k) wr) (fun i _ => ne - (intOf i).toNat)
  case atStart => exact ⟨0, Nat.zero_le _, rfl, HV0.out⟩
  case round =>
    clear HV0
    obtain ⟨k, hk, rfl, hX⟩ := hrel
    by_cases hlt : k < ne
    · have hd : decide (k < ne) = true := by simp; omega
      have q1 : (0 : Int) ≤ (k : Int) := by omega
      have q2 : (k : Int) < (ne : Int) := by omega
      have hkl : k < E.length := by rw [HNE.out]; exact hlt
      obtain ⟨bb, ob, rfl, e0, e1, e2, e3, e4⟩ := (HB.out.below hX.bel).item hkl
      have HTK := Lib.hid (risG_take hkl)
      have hname : E[k].1.length ≤ 1000000 := HK1.out _ (HE.out _ (List.getElem_mem hkl))
      have hL : (risG (E.take k)).length ≤ 1000000 := Nat.le_trans (risG_le (K := K) fun q hq => HE.out _ (List.mem_of_mem_take hq)) HK2.out
      have HX := Lib.hid hX
      have HST : Hid (∀ V, Below wr.heap.size wr V → ∃ w', (Instr.mapUpdate 65 (.map (some b)) (.string ⟨E[k].1.toArray⟩) (.agg #[.int .i64 E[k].2.t.kind, .int .i64 E[k].2.t.int, .string ⟨E[k].2.t.name.toArray⟩, .slice E[k].2.A E[k].2.t.items.length E[k].2.c])).run Tryz.prog V = .ok () w' ∧ SM w' b (risG (E.take (k + 1))) ∧ Fr (fun k => k = b) V w') := fun V hV => by
        rw [HTK.out]
        exact (HX.out.sm.keep hV).store (by unfold maxLen; omega) (by unfold maxLen; omega) E[k].2
      generalize E[k] = q at *
      obtain ⟨qn, qe⟩ := q
      simp only at e0 e1 e2 e3 e4 hname HST
      obtain ⟨w1, hup, hs1, hf1⟩ := HST.out (wr.alloc (.cells #[.string ⟨qn.toArray⟩, .int .i64 qe.t.kind, .int .i64 qe.t.int, .string ⟨qe.t.name.toArray⟩, .slice qe.A qe.t.items.length qe.c] 52)) (below_alloc _ _)
      have HEnd := Lib.hid ((HX.out.keep (below_alloc _ _)).act hs1 hf1)
      clear hs1 hf1 HST HTK hX hkl
      go_wp2
      go_roundw
      case rel => exact ⟨k + 1, by omega, by go_num, HEnd.out⟩
      case measure => simp [intOf]; omega
    · obtain rfl : k = ne := by omega
      have hd : decide (k < k) = false := by simp
      have hX2 : SX W b E wr := by rw [List.take_of_length_le (by rw [HNE.out]; exact Nat.le_refl _)] at hX; exact hX
      have HX := Lib.hid hX2
      clear hX hX2 hlt hk
      go_upto_region 10 with (fail)
      clear hd
      obtain ⟨wl, hwl⟩ : ∃ wl, wl = wr := ⟨_, rfl⟩
      rw [← hwl] at HX ⊢
      clear hwl
      go_loopw [6, 39] (fun u i wr => u = .slice none 0 0 ∧ ∃ (k : Nat) (E' : List (BG (TE W))), k ≤ np ∧ i = .int .i64 k ∧ vE E' = (matchL (ps.take k) (ts.take k) (vE E)).1 ∧ (matchL (ps.take k) (ts.take k) (vE E)).2 = true ∧ (∀ q ∈ E', q.1 ∈ K) ∧ SX W b E' wr) (fun _ i _ => np - (intOf i).toNat)
      case atStart => exact ⟨rfl, 0, E, Nat.zero_le _, rfl, by simp [matchL], by simp [matchL], HE.out, HX.out⟩
      case round =>
        clear HX
        obtain ⟨rfl, k, E', hk, rfl, hv, hm, hEK, hX⟩ := hrel
        have HV' := Lib.hid hv
        have HM' := Lib.hid hm
        clear hv hm
        by_cases hlt2 : k < np
        · have hd : decide (k < np) = true := by simp; omega
          have q1 : (0 : Int) ≤ (k : Int) := by omega
          have q2 : (k : Int) < (np : Int) := by omega
          have hkl : k < ps.length := by rw [HNP.out]; exact hlt2
          have hkt : k < ts.length := by rw [HNT.out]; exact hlt2
          obtain ⟨bx, ox, x, rfl, hx, hok, e0, e1, e2, e3, e4, e5, e6⟩ := rdn_item HR.out hkl
          obtain ⟨bi, oi, u, rfl, hu, f0, f1, f2, f3⟩ := te_item HT.out hkt
          have HW0 := Lib.hid hX.bel
          have p0 := (HW0.out.cell (World.block_lt_of_cell? W _ e0)).trans e0
          have p1 := (HW0.out.cell (World.block_lt_of_cell? W _ e1)).trans e1
          have p2 := (HW0.out.cell (World.block_lt_of_cell? W _ e2)).trans e2
          have p3 := (HW0.out.cell (World.block_lt_of_cell? W _ e3)).trans e3
          have p4 := (HW0.out.cell (World.block_lt_of_cell? W _ e4)).trans e4
          have p5 := (HW0.out.cell (World.block_lt_of_cell? W _ e5)).trans e5
          have p6 := (HW0.out.cell (World.block_lt_of_cell? W _ e6)).trans e6
          have HT9 : Hid (matchL (ps.take (k + 1)) (ts.take (k + 1)) (vE E) = matchP x.t u.t (vE E')) := by
            unfold Hid
            rw [matchL_take ps ts (vE E) k hkl hkt HM'.out, hx, hu, HV'.out]
          have HCL : Hid (∀ V, SM V b (risG E') → Below W.heap.size W V → Calls Tryz.prog 29 #[.map (some b), .agg #[.int .i64 x.t.kind, .int .i64 x.t.int, .string ⟨x.t.name.toArray⟩, .int .i64 x.t.at_, .slice x.A x.t.kids.length x.c, .slice x.B x.t.clauses.length x.d, .slice x.C x.t.body.length x.e], .agg #[.int .i64 u.t.kind, .int .i64 u.t.int, .string ⟨u.t.name.toArray⟩, .slice u.A u.t.items.length u.c]] V (MEnd W K b V (matchP x.t u.t (vE E')))) := fun V h1 h2 =>
            mmatch_any HK1.out HK2.out hX.hb _ x u V E' (Nat.le_refl _) hok (by rw [hx]; exact patL_at HPA.out hkl) (by rw [hx]; exact ndall_at HNM.out hkl) (by rw [hu]; exact isL_at HTS.out hkt) hEK h1 h2
          obtain ⟨R, hR⟩ : ∃ R, matchP x.t u.t (vE E') = R := ⟨_, rfl⟩
          rw [hR] at HT9 HCL
          obtain ⟨R1, R2⟩ := R
          have HX := Lib.hid hX
          have hbl : b < wr.heap.size := hX.sm.lt
          have hbW := hX.hb
          have HC : Hid (∀ V', Fr (fun k => k = b) wr V' → ((V'.cell? ⟨bi, oi + k * 4, none⟩ = some (.int .i64 u.t.kind) ∧ V'.cell? ⟨bi, oi + k * 4 + 1, none⟩ = some (.int .i64 u.t.int) ∧ V'.cell? ⟨bi, oi + k * 4 + 2, none⟩ = some (.string ⟨u.t.name.toArray⟩) ∧ V'.cell? ⟨bi, oi + k * 4 + 3, none⟩ = some (.slice u.A u.t.items.length u.c)) ∧ Below W.heap.size W V')) := fun V' hf => by
            have hbw : Below W.heap.size W V' := HW0.out.trans (hf.below HW0.out.size (fun k hk => by omega))
            exact ⟨⟨(hbw.cell (World.block_lt_of_cell? W _ f0)).trans f0, (hbw.cell (World.block_lt_of_cell? W _ f1)).trans f1, (hbw.cell (World.block_lt_of_cell? W _ f2)).trans f2, (hbw.cell (World.block_lt_of_cell? W _ f3)).trans f3⟩, hbw⟩
          clear hx hu hok hkl hkt hX hR e0 e1 e2 e3 e4 e5 e6 f0 f1 f2 f3 HW0
          go_upto_region 12 with (fail)
          refine wp_world (fun V => Blk V wr.heap.size 29 #[.int .i64 x.t.kind, .int .i64 x.t.int, .string ⟨x.t.name.toArray⟩, .int .i64 x.t.at_, .slice x.A x.t.kids.length x.c, .slice x.B x.t.clauses.length x.d, .slice x.C x.t.body.length x.e] ∧ SX W b E' V ∧ Fr (fun k => k = b) wr V) ⟨Blk.new _ _ _, HX.out.keep (below_alloc _ _), Fr.alloc _ _ _⟩ ?_
          clear p0 p1 p2 p3 p4 p5 p6
          rintro Y ⟨hBk, hX, hfY⟩
          have HS : Hid (∀ V', Fr (fun k => k = b) Y V' → ((V'.cell? ⟨wr.heap.size, 0, none⟩ = some (.int .i64 x.t.kind) ∧ V'.cell? ⟨wr.heap.size, 1, none⟩ = some (.int .i64 x.t.int) ∧ V'.cell? ⟨wr.heap.size, 2, none⟩ = some (.string ⟨x.t.name.toArray⟩) ∧ V'.cell? ⟨wr.heap.size, 3, none⟩ = some (.int .i64 x.t.at_) ∧ V'.cell? ⟨wr.heap.size, 4, none⟩ = some (.slice x.A x.t.kids.length x.c) ∧ V'.cell? ⟨wr.heap.size, 5, none⟩ = some (.slice x.B x.t.clauses.length x.d) ∧ V'.cell? ⟨wr.heap.size, 6, none⟩ = some (.slice x.C x.t.body.length x.e)) ∧ (V'.cell? ⟨bi, oi + k * 4, none⟩ = some (.int .i64 u.t.kind) ∧ V'.cell? ⟨bi, oi + k * 4 + 1, none⟩ = some (.int .i64 u.t.int) ∧ V'.cell? ⟨bi, oi + k * 4 + 2, none⟩ = some (.string ⟨u.t.name.toArray⟩) ∧ V'.cell? ⟨bi, oi + k * 4 + 3, none⟩ = some (.slice u.A u.t.items.length u.c)))) := fun V' hf => by
            have hb9 := hf.blk hBk (by omega)
            exact ⟨⟨hb9.cell 0, hb9.cell 1, hb9.cell 2, hb9.cell 3, hb9.cell 4, hb9.cell 5, hb9.cell 6⟩, (HC.out V' (hfY.same hf)).1⟩
          have HCL2 : Hid (∀ V', Below Y.heap.size Y V' → Calls Tryz.prog 29 #[.map (some b), .agg #[.int .i64 x.t.kind, .int .i64 x.t.int, .string ⟨x.t.name.toArray⟩, .int .i64 x.t.at_, .slice x.A x.t.kids.length x.c, .slice x.B x.t.clauses.length x.d, .slice x.C x.t.body.length x.e], .agg #[.int .i64 u.t.kind, .int .i64 u.t.int, .string ⟨u.t.name.toArray⟩, .slice u.A u.t.items.length u.c]] V' fun e w' => ∃ E2 : List (BG (TE W)), e = .returned (.bool R2) ∧ vE E2 = R1 ∧ (∀ q ∈ E2, q.1 ∈ K) ∧ SM w' b (risG E2) ∧ Fr (fun k => k = b) Y w') := fun V' hb9 => (HCL.out V' (hX.sm.keep hb9) (HC.out V' (hfY.same (Fr.of_below hb9 _))).2).mono fun e w' ⟨E2, h1, h2, h3, h4, h5⟩ => ⟨E2, h3, h1, h2, h4, (Fr.of_below hb9 _).same h5⟩
          have HXA := Lib.hid (fun V' E2 h1 h2 => SX.act (V' := V') (E' := E2) hX h1 h2)
          clear hX hBk hfY HC HCL HX
          cases R2 with
          | true =>
            go_region_held3 (fun V' => (V'.cell? ⟨wr.heap.size, 0, none⟩ = some (.int .i64 x.t.kind) ∧ V'.cell? ⟨wr.heap.size, 1, none⟩ = some (.int .i64 x.t.int) ∧ V'.cell? ⟨wr.heap.size, 2, none⟩ = some (.string ⟨x.t.name.toArray⟩) ∧ V'.cell? ⟨wr.heap.size, 3, none⟩ = some (.int .i64 x.t.at_) ∧ V'.cell? ⟨wr.heap.size, 4, none⟩ = some (.slice x.A x.t.kids.length x.c) ∧ V'.cell? ⟨wr.heap.size, 5, none⟩ = some (.slice x.B x.t.clauses.length x.d) ∧ V'.cell? ⟨wr.heap.size, 6, none⟩ = some (.slice x.C x.t.body.length x.e)) ∧ (V'.cell? ⟨bi, oi + k * 4, none⟩ = some (.int .i64 u.t.kind) ∧ V'.cell? ⟨bi, oi + k * 4 + 1, none⟩ = some (.int .i64 u.t.int) ∧ V'.cell? ⟨bi, oi + k * 4 + 2, none⟩ = some (.string ⟨u.t.name.toArray⟩) ∧ V'.cell? ⟨bi, oi + k * 4 + 3, none⟩ = some (.slice u.A u.t.items.length u.c))) (first | exact HS.out _ hf9 | exact HS.out _ (Fr.refl _ _).drew | exact HS.out _ (Fr.refl _ _)) ((go_at_call 29; refine (HCL2.out _ (by first | exact Below.refl _ _ | exact (Below.refl _ _).drew)).mono ?_; rintro e w' ⟨E2, rfl, h1, h2, hs9, hf9⟩))
            all_goals
              go_wp2
              go_roundw
              case rel => exact ⟨rfl, k + 1, E2, by omega, by go_num, by rw [HT9.out]; exact h1, by rw [HT9.out], h2, HXA.out _ _ hs9 hf9⟩
              case measure => simp [intOf]; omega
          | false =>
            go_region_held3 (fun V' => (V'.cell? ⟨wr.heap.size, 0, none⟩ = some (.int .i64 x.t.kind) ∧ V'.cell? ⟨wr.heap.size, 1, none⟩ = some (.int .i64 x.t.int) ∧ V'.cell? ⟨wr.heap.size, 2, none⟩ = some (.string ⟨x.t.name.toArray⟩) ∧ V'.cell? ⟨wr.heap.size, 3, none⟩ = some (.int .i64 x.t.at_) ∧ V'.cell? ⟨wr.heap.size, 4, none⟩ = some (.slice x.A x.t.kids.length x.c) ∧ V'.cell? ⟨wr.heap.size, 5, none⟩ = some (.slice x.B x.t.clauses.length x.d) ∧ V'.cell? ⟨wr.heap.size, 6, none⟩ = some (.slice x.C x.t.body.length x.e)) ∧ (V'.cell? ⟨bi, oi + k * 4, none⟩ = some (.int .i64 u.t.kind) ∧ V'.cell? ⟨bi, oi + k * 4 + 1, none⟩ = some (.int .i64 u.t.int) ∧ V'.cell? ⟨bi, oi + k * 4 + 2, none⟩ = some (.string ⟨u.t.name.toArray⟩) ∧ V'.cell? ⟨bi, oi + k * 4 + 3, none⟩ = some (.slice u.A u.t.items.length u.c))) (first | exact HS.out _ hf9 | exact HS.out _ (Fr.refl _ _).drew | exact HS.out _ (Fr.refl _ _)) ((go_at_call 29; refine (HCL2.out _ (by first | exact Below.refl _ _ | exact (Below.refl _ _).drew)).mono ?_; rintro e w' ⟨E2, rfl, h1, h2, hs9, hf9⟩))
            all_goals
              go_wp2
              refine bodyPost_ret (v := .tuple #[.slice none 0 0, .bool false]) (by simp [results, Tryz.results10, go_sem]) rfl ?_
              have h8 := matchL_early ps ts (vE E) (k + 1) (by rw [HT9.out])
              rw [HF2.out, h8, HT9.out]
              exact AllEnd.none_ (HXA.out _ _ hs9 hf9).bel
        · obtain rfl : k = np := by omega
          have hd : decide (k < k) = false := by simp
          have h8 := HV'.out
          have h9 := HM'.out
          rw [List.take_of_length_le (by rw [HNP.out]; exact Nat.le_refl _), List.take_of_length_le (by rw [HNT.out]; exact Nat.le_refl _)] at h8 h9
          have HF3 := Lib.hid (show FIN = some (vE (risG E')) from by rw [HF2.out, h9, if_pos rfl, ← h8, risG_vE])
          have HX := Lib.hid hX
          have hL : (risG E').length ≤ 1000000 := Nat.le_trans (risG_le (K := K) hEK) HK2.out
          have HKN : Hid (∀ q ∈ risG E', q.1.length ≤ 1000000) := fun q hq => HK1.out _ (hEK q (risG_mem hq))
          have hsm := hX.sm
          have hXb := hX.bel
          have HSR := Lib.hid (risG_srt E')
          clear hX h8 h9 HV' HM' HF2 hlt2 hk hEK
          generalize risG E' = L at *
          have HS2 := Lib.hid (HSO.out wr b L hsm hL)
          have HSM := Lib.hid hsm
          have HK0 := Lib.hid (HKY.out (some b) wr)
          have HXB := Lib.hid hXb
          obtain ⟨n, hn⟩ : ∃ n, L.length = n := ⟨_, rfl⟩
          have HN := Lib.hid hn
          rw [hn] at HS2 hL
          clear hn hsm HX HSO HKY hXb
          go_upto_region 16 with (first
            | (go_at_call 31; refine HK0.out.mono ?_; rintro r w1 ⟨rfl, rfl⟩)
            | (go_at_call 30; refine HS2.out.mono ?_; rintro r w2 ⟨A9, c9, rfl, hcells, hb9⟩))
          have HC := Lib.hid hcells
          have HBL := Lib.hid hb9
          have HSM2 := Lib.hid (HSM.out.keep hb9)
          obtain ⟨W2, hW2⟩ : ∃ W2, W2 = w2 := ⟨_, rfl⟩
          rw [← hW2] at HC HBL HSM2 ⊢
          clear hcells HK0 HS2 hb9 hW2 HSM
          go_loopw [6, 57] (fun u v wx => ∃ (i : Nat), i ≤ n ∧ v = .int .i64 (i : Int) ∧ wx.ownsRow W2.heap.size 52 5 u i (bL (L.take i)) ∧ Below W2.heap.size W2 wx) (fun _ v _ => n - (intOf v).toNat)
          case atStart => exact ⟨0, Nat.zero_le _, rfl, by rw [List.take_zero, bL_nil]; exact World.ownsRow_nil _ _ _ _, Below.refl _ _⟩
          case round =>
            obtain ⟨i, hi, rfl, hown, hbx⟩ := hrel
            by_cases hlt : i < n
            · have hd8 : decide (i < n) = true := by simp; omega
              have hkl : i < L.length := by rw [HN.out]; exact hlt
              obtain ⟨g, rfl, hg, hc⟩ := HC.out i (by simpa using hkl)
              have e0 := (hbx.cell (World.block_lt_of_cell? W2 _ hc)).trans hc
              rw [List.getElem_map] at e0
              have hnm := HKN.out _ (List.getElem_mem hkl)
              have hlk := (HSM2.out.keep hbx).get (s := L[i].1) (by unfold maxLen; omega)
              rw [(getG_srt HSR.out).2 (show (L[i].1, L[i].2) ∈ L from List.getElem_mem hkl)] at hlk
              simp only [Option.map_some, Option.getD_some, TE.agg] at hlk
              have HTK := Lib.hid (List.take_succ_eq_append_getElem hkl)
              generalize L[i] = x at *
              obtain ⟨s, p⟩ := x
              simp only at e0 hlk
              have HOW := Lib.hid hown
              have HBX := Lib.hid hbx
              have HSZ : Hid (W2.heap.size ≤ wr.heap.size) := hbx.size
              have HCS := Lib.hid (bc_cs wr.heap.size (s, p) (Blk.new wr 52 #[.string ⟨s.toArray⟩, .int .i64 p.t.kind, .int .i64 p.t.int, .string ⟨p.t.name.toArray⟩, .slice p.A p.t.items.length p.c]))
              clear hown hbx hnm hc hkl
              go_wp2_with (at_builtin; refine wpList_app bindT rfl (.tmp 61) (.tmp 67) rfl W2.heap.size _ i (bL (L.take i)) rfl (HOW.out.alloc _) (some ⟨wr.heap.size, 0, none⟩) 1 1 (bc (s, p)) rfl rfl HCS.out (bc_one (s, p)) (by unfold maxLen; omega) (by omega) (Nat.le_trans HSZ.out (by simp)) ?_; intro v' w3 ho3 hg3 hat3)
              go_roundw
              case rel => exact ⟨i + 1, by omega, by go_num, by rw [HTK.out, bL_snoc]; exact ho3, (HBX.out.alloc (Below.size HBX.out) _).grown hg3 (Nat.le_trans (Below.size HBX.out) (by simp)) (fun k hk => (World.ownsRow.lt HOW.out k hk).1)⟩
              case measure => simp [intOf]; omega
            · have hd8 : decide (i < n) = false := by simp; omega
              have hin : i = n := by omega
              subst hin
              rw [show L.take i = L by rw [← HN.out, List.take_length]] at hown
              obtain ⟨A8, c8, rfl⟩ := own_shape hown
              have HOW := Lib.hid hown
              have HBX := Lib.hid hbx
              clear hown hbx
              go_wp2
              refine bodyPost_ret (v := .tuple #[.slice A8 i c8, .bool true]) (by simp [results, Tryz.results10, go_sem]) rfl ?_
              have hbb := below_step (below_step HXB.out HBL.out) HBX.out
              refine ⟨A8, c8, upE hbb L, ?_, ?_, (rdb_of_own HOW.out HN.out).up hbb, hbb⟩
              · rw [HF3.out, upE_len, HN.out]; rfl
              · rw [HF3.out, vE_up]; rfl
end
end
section
open Go.RowKit Go.Maps Go.WideMaps
set_option linter.unusedVariables false

theorem strKeys_bdat {w0 : World} (L : List (BG (TE w0))) : strKeys (bdat L) = L.map (·.1) := by
  unfold strKeys bdat
  simp only [List.map_map]
  rfl
theorem bsorted {w0 : World} {L : List (BG (TE w0))} {ss : List (List UInt8)} (hs : SrtG L) (hp : ss.Perm (strKeys (bdat L))) : ss.mergeSort (fun x y => decide (x ≤ y)) = L.map (·.1) := by
  rw [strKeys_bdat] at hp
  have h1 := mergeSort_of_perm hp
  have h2 : ss.mergeSort (fun x y => decide (x ≤ y)) = (L.map (·.1)).mergeSort (fun x y => decide (x ≤ y)) := h1
  rw [h2]
  refine List.mergeSort_of_pairwise ?_
  refine List.pairwise_map.2 (hs.imp fun hlt => ?_)
  simp only [decide_eq_true_eq]
  exact List.le_of_lt hlt
theorem keyn_own {w : World} {base e : Nat} {v : Value} {n : Nat} {ss : List (List UInt8)} (h : w.ownsRow base e 1 v n (ss.map Go.Proofs.encStr)) : ∃ A c, v = .slice A n c ∧ KeyN base w A ss := by
  have hl : ss.length = n := by have := h.1; simpa using this
  rcases h.2 with ⟨rfl, rfl⟩ | ⟨g, cap, cur, rfl, hb, hg, hnc, _, _, htake⟩
  · exact ⟨none, 0, rfl, fun j hj => by omega⟩
  · refine ⟨_, cap, rfl, fun j hj => ⟨g, rfl, hb, ?_⟩⟩
    have hc := h.cells (g := g) rfl j (Go.Proofs.encStr ss[j]) (by simp [hj])
    rw [Addr.add_lit, Nat.zero_add] at hc
    exact hc
theorem keys_ok : KeysOk := fun mb V => callsIn_wide.1 (Tryz.maps_Keys_31 mb V)
theorem sorted_ok (w0 : World) : SortedOk w0 := fun V b L h hl => by
  refine (callsIn_wide.1 (Tryz.slices_Sorted_keys_30_31 b L.length (bdat L) _ V h.own (by rw [size_bdat]; unfold maxLen; omega) (by rw [size_bdat]; omega))).mono ?_
  rintro e w' ⟨v, ss, rfl, hp, hown, _, hb⟩
  have hs := bsorted h.srt hp
  have hlen : ss.length = L.length := by
    have := hp.length_eq
    rw [strKeys_bdat] at this
    simpa using this
  rw [hs, hlen] at hown
  obtain ⟨A, c, rfl, hc⟩ := keyn_own hown
  refine ⟨A, c, rfl, fun j hj => ?_, below_step (below_alloc _ _) hb⟩
  obtain ⟨g, hA, hg, hcell⟩ := hc j hj
  refine ⟨g, hA, ?_, hcell⟩
  have : (V.alloc (.cells #[.map (some b)] 65)).heap.size = V.heap.size + 1 := by simp
  omega
theorem rdm_one {w0 V : World} {g : Nat} (t : TE w0) (hb : Below w0.heap.size w0 V) (h : Blk V g 35 #[.int .i64 t.t.kind, .int .i64 t.t.int, .string ⟨t.t.name.toArray⟩, .slice t.A t.t.items.length t.c]) : RdM V (some ⟨g, 0, none⟩) 1 [t.t] := by
  refine ⟨Nat.le_refl _, by omega, .inr ⟨g, 0, rfl, ?_⟩⟩
  simp only [TV.Row, and_true]
  exact (TV.at_iff _ _ _).2 ⟨h.cell 0, h.cell 1, h.cell 2, t.A, t.c, h.cell 3, t.ok.below hb⟩
theorem rdn_one {V : World} {g : Nat} (x : EN) (hok : x.Ok NoB V) (h : Blk V g 29 #[.int .i64 x.t.kind, .int .i64 x.t.int, .string ⟨x.t.name.toArray⟩, .int .i64 x.t.at_, .slice x.A x.t.kids.length x.c, .slice x.B x.t.clauses.length x.d, .slice x.C x.t.body.length x.e]) : RdN NoB V (some ⟨g, 0, none⟩) 1 [x.t] := by
  refine rdn_of_blk (xs := [x]) ?_ (fun h => h) (by simp) fun y hy => ?_
  · exact h
  · rw [List.mem_singleton.1 hy]; exact hok
theorem two_box (W : World) (x7 x4 : Array Value) : Blk ((W.alloc (.cells x7 29)).alloc (.cells x4 35)) W.heap.size 29 x7 ∧ Blk ((W.alloc (.cells x7 29)).alloc (.cells x4 35)) (W.heap.size + 1) 35 x4 ∧ Below W.heap.size W ((W.alloc (.cells x7 29)).alloc (.cells x4 35)) := by
  refine ⟨(Blk.new W _ _).alloc _, ?_, below_step (below_alloc _ _) (below_alloc _ _)⟩
  have := Blk.new (W.alloc (.cells x7 29)) 35 x4
  simpa using this
section
variable {K : List (List UInt8)}

set_option maxRecDepth 100000 in
set_option maxHeartbeats 2000000 in
theorem pmatch_any (W : World) (x : EN) (t : TE W) (E : List (BG (TE W))) (D : Option Addr) (e : Nat) (hok : x.Ok NoB W) (hB : RdB W D e E)
    (hnm : x.t.all (fun s => s ∈ K)) (hts : t.t.isT = true) (hE : ∀ q ∈ E, q.1 ∈ K) (hK1 : ∀ s ∈ K, s.length ≤ 1000000) (hK2 : K.length ≤ 1000000) :
    Calls Tryz.prog 8 #[.agg #[.int .i64 x.t.kind, .int .i64 x.t.int, .string ⟨x.t.name.toArray⟩, .int .i64 x.t.at_, .slice x.A x.t.kids.length x.c, .slice x.B x.t.clauses.length x.d, .slice x.C x.t.body.length x.e], .agg #[.int .i64 t.t.kind, .int .i64 t.t.int, .string ⟨t.t.name.toArray⟩, .slice t.A t.t.items.length t.c], .slice D E.length e] W (AllEnd W (allP [x.t] [t.t] (vE E))) := by
  have HALL : Hid (∀ V g1 g2, Below W.heap.size W V → Blk V g1 29 #[.int .i64 x.t.kind, .int .i64 x.t.int, .string ⟨x.t.name.toArray⟩, .int .i64 x.t.at_, .slice x.A x.t.kids.length x.c, .slice x.B x.t.clauses.length x.d, .slice x.C x.t.body.length x.e] → Blk V g2 35 #[.int .i64 t.t.kind, .int .i64 t.t.int, .string ⟨t.t.name.toArray⟩, .slice t.A t.t.items.length t.c] →
      Calls Tryz.prog 10 #[.slice (some ⟨g1, 0, none⟩) 1 1, .slice (some ⟨g2, 0, none⟩) 1 1, .slice D E.length e] V (AllEnd W (allP [x.t] [t.t] (vE E)))) := fun V g1 g2 hV h1 h2 => by
    have := mall_any (K := K) keys_ok sorted_ok V [x.t] [t.t] (upE hV E) (some ⟨g1, 0, none⟩) (some ⟨g2, 0, none⟩) D 1 1 e (rdn_one x (hok.below hV) h1) (rdm_one t hV h2) ((hB.below hV).up hV) (by simp only [ND.allL, and_true]; exact hnm) (by simp only [TV.isL, Bool.and_true]; exact hts) (upE_names hV hE) hK1 hK2
    rw [upE_len, vE_up] at this
    exact this.mono fun r w' ⟨A, c, E2, h1, h2, h3, h4⟩ => ⟨A, c, E2, h1, h2, h3, below_step hV h4⟩
  obtain ⟨R, hR⟩ : ∃ R, allP [x.t] [t.t] (vE E) = R := ⟨_, rfl⟩
  rw [hR] at HALL ⊢
  generalize E.length = ne at *
  clear hok hB hnm hts hE hK1 hK2 hR
  go_enter Tryz.func8, Tryz.ntmps8
  go_upto_region 1 with (fail)
  refine wp_world (fun V => Blk V W.heap.size 29 #[.int .i64 x.t.kind, .int .i64 x.t.int, .string ⟨x.t.name.toArray⟩, .int .i64 x.t.at_, .slice x.A x.t.kids.length x.c, .slice x.B x.t.clauses.length x.d, .slice x.C x.t.body.length x.e] ∧ Blk V (W.heap.size + 1) 35 #[.int .i64 t.t.kind, .int .i64 t.t.int, .string ⟨t.t.name.toArray⟩, .slice t.A t.t.items.length t.c] ∧ Below W.heap.size W V) (two_box W _ _) ?_
  rintro V ⟨h7, h4, hb⟩
  have x0 := h7.cell 0
  have x1 := h7.cell 1
  have x2 := h7.cell 2
  have x3 := h7.cell 3
  have x4 := h7.cell 4
  have x5 := h7.cell 5
  have x6 := h7.cell 6
  have y0 := h4.cell 0
  have y1 := h4.cell 1
  have y2 := h4.cell 2
  have y3 := h4.cell 3
  obtain ⟨z7, z4, zb⟩ := two_box V #[.int .i64 x.t.kind, .int .i64 x.t.int, .string ⟨x.t.name.toArray⟩, .int .i64 x.t.at_, .slice x.A x.t.kids.length x.c, .slice x.B x.t.clauses.length x.d, .slice x.C x.t.body.length x.e] #[.int .i64 t.t.kind, .int .i64 t.t.int, .string ⟨t.t.name.toArray⟩, .slice t.A t.t.items.length t.c]
  have HC := Lib.hid (HALL.out _ _ _ (below_step hb zb) z7 z4)
  have hlt1 := h7.lt
  have hlt2 := h4.lt
  clear HALL h7 h4 hb z7 z4 zb
  go_wp2_with (go_at_call 10; refine HC.out.mono ?_; rintro r w' ⟨A9, c9, E9, rfl, h1, h2, h3⟩)
  refine bodyPost_ret (v := .tuple #[.slice A9 E9.length c9, .bool R.isSome]) (by simp [results, Tryz.results8, go_sem]) rfl ?_
  exact ⟨A9, c9, E9, rfl, h1, h2, h3⟩
end
end
end Go.Proofs.YtmpknhdfglbocaaGreat
