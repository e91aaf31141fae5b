/- The walk of the statement NamesPlays. -/
import Derived.Test.YtfkolemkmhcbfaaNaU
namespace Go.Proofs.Ytfkolemkmhcbfaa
open Go.RowKit Go.Maps Go.WideMaps
set_option linter.unusedVariables false
theorem RNm_new (W : World) : RNm (W.alloc (.cells #[.slice none 0 0] 29)) W.heap.size W.heap.size none 0 [] :=
  ⟨Blk.new W 29 #[.slice none 0 0], World.ownsRow_nil _ _ _ _, fun g hg => by cases hg⟩
theorem rnm_base {W : World} {B B' pr : Nat} {A : Option Addr} {cap : Nat} {L : NL} (h : RNm W B' pr A cap L) (hB : B ≤ B') : RNm W B pr A cap L := ⟨h.obj, own_base h.row hB, h.nrow⟩
theorem radd_of {w V : World} {pr : Nat} {L : NL} (h : ∃ A cap, RNm V w.heap.size pr A cap L) (hb : Below w.heap.size w V) (hp : w.heap.size ≤ pr) (s : List UInt8) (p : Int) (hs : s.length ≤ maxLen) (hl : L.length ≤ 1000000) :
    Calls Try.prog 9 #[.pointer (some ⟨pr, 0, none⟩), .string ⟨s.toArray⟩, .int .i64 p] V fun e V' => e = .returned (.int .i64 ((addP L s p).1 : Int)) ∧ (∃ A cap, RNm V' w.heap.size pr A cap (addP L s p).2) ∧ Fr (fun k => k = pr) V V' := by
  obtain ⟨A, cap, hr⟩ := h
  exact (radd_any hr hb.size s p hs hl).mono fun e V' ⟨he, A', c', h1, h2⟩ => ⟨he, ⟨A', c', h1⟩, h2⟩
theorem dropP_len (L : NL) (p : Int) : (dropP L p).2.length ≤ L.length := by
  unfold dropP
  cases of1 L p with
  | none => exact Nat.le_refl _
  | some q => exact del1_len q
section
variable {w V V' : World} {pr : Nat} {u : Value} {i : Nat} {xs : List Value}
/-- What the loop over the first entries keeps. -/
structure P1 (w V : World) (pr : Nat) (u : Value) (i : Nat) (xs : List Value) (L : NL) : Prop where
  own : V.ownsRow w.heap.size 33 2 u i xs
  rf : ∃ A cap, RNm V w.heap.size pr A cap L
  bel : Below w.heap.size w V
  lp : w.heap.size ≤ pr
theorem P1.keep {L : NL} (h : P1 w V pr u i xs L) (hb : Below V.heap.size V V') : P1 w V' pr u i xs L := by
  obtain ⟨A, cap, hr⟩ := h.rf
  exact ⟨h.own.kept (grown_of_below hb none) (by cases u.ownBlock <;> simp), ⟨A, cap, hr.keep hb⟩, below_step h.bel hb, h.lp⟩
theorem own_blk {V : World} {base e z n : Nat} {v : Value} {xs : List Value} (h : V.ownsRow base e z v n xs) {g : Nat} (hg : v.ownBlock = some g) : ∃ cs, Blk V g e cs := by
  rcases h.2 with ⟨hv, hz⟩ | ⟨g', cap', cur, hv, hb, hh, _⟩
  · rw [hv] at hg; cases hg
  · rw [hv] at hg
    obtain rfl : g' = g := by injection hg
    exact ⟨cur, hh⟩
/-- The slice that is given grows: the document's names stay. -/
theorem P1.grow {L : NL} {u' : Value} {xs' : List Value} (h : P1 w V pr u i xs L) (ho : V'.ownsRow w.heap.size 33 2 u' (i + 1) xs') (hg : V.grownBy V' u.ownBlock) : P1 w V' pr u' (i + 1) xs' L := by
  obtain ⟨A, cap, hr⟩ := h.rf
  have hlt := fun k hk => (World.ownsRow.lt h.own k hk)
  refine ⟨ho, ⟨A, cap, ?_⟩, h.bel.grown hg h.bel.size (fun k hk => (hlt k hk).1), h.lp⟩
  refine hr.fr (F := fun k => u.ownBlock = some k) (Fr.of_grown hg (fun k hk _ => hk)) (fun hk => ?_) (fun g hg9 hk => ?_)
  · obtain ⟨cs, hb⟩ := own_blk h.own hk
    exact blk_ne hb hr.obj (by decide) rfl
  · obtain ⟨cs, hb⟩ := own_blk h.own hk
    obtain ⟨cs', hb'⟩ := own_blk hr.row hg9
    exact blk_ne hb hb' (by decide) rfl
/-- The document's names turn: the slice that is given stays. -/
theorem P1.turn {L L' : NL} (h : P1 w V pr u i xs L) (hr : ∃ A cap, RNm V' w.heap.size pr A cap L') (hF : Fr (fun k => k = pr) V V') : P1 w V' pr u i xs L' := by
  obtain ⟨A, cap, hr0⟩ := h.rf
  refine ⟨own_fr h.own hF (fun k hk e => ?_), hr, h.bel.trans (hF.below h.bel.size (fun k hk => by rw [hk]; exact h.lp)), h.lp⟩
  obtain ⟨cs, hb⟩ := own_blk h.own hk
  exact blk_ne hb hr0.obj (by decide) e
end

set_option maxRecDepth 100000 in
set_option maxHeartbeats 8000000 in
theorem namesPlays_any (A1 A2 : Option Addr) (f l : List ActN) (m n c1 c2 : Nat) (w : World) (hf : f.length = m) (hm : m ≤ 9223372036854775807) (hr1 : RdNA w A1 f) (ho1 : ∀ a ∈ f, a.Ok) (hl : l.length = n) (hn : n ≤ 9223372036854775807) (hr2 : RdNA w A2 l) (ho2 : ∀ a ∈ l, a.Ok) :
    Calls Try.prog 3 #[.slice A1 m c1, .slice A2 n c2] w (Yes w) := by
  have HH1 := Lib.hid (huge_any A1 f m c1 w hf hm hr1 ho1)
  have HH2 := Lib.hid (huge_any A2 l n c2 w hl hn hr2 ho2)
  by_cases hgood : hugeB f = false ∧ hugeB l = false
  · obtain ⟨hh1, hh2⟩ := hgood
    rw [hh1] at HH1
    rw [hh2] at HH2
    obtain ⟨hm150, hs1⟩ := huge_not hf hh1
    obtain ⟨hn150, hs2⟩ := huge_not hl hh2
    have HF := Lib.hid hf
    have HL := Lib.hid hl
    have HO1 := Lib.hid ho1
    have HO2 := Lib.hid ho2
    have HS1 := Lib.hid hs1
    have HS2 := Lib.hid hs2
    have HR1 := Lib.hid hr1
    have HR2 := Lib.hid hr2
    clear hf hl ho1 ho2 hs1 hs2 hr1 hr2 hh1 hh2
    go_enter Try.func3, Try.ntmps3
    go_upto_region 7 with (first
      | (go_at_call 7; (with_reducible refine HH1.out.mono ?_); rintro e w' ⟨rfl, rfl⟩)
      | (go_at_call 7; (with_reducible refine HH2.out.mono ?_); rintro e w' ⟨rfl, rfl⟩))
    clear HH1 HH2
    refine wp_world (fun V => P1 w V w.heap.size (.slice none 0 0) 0 [] []) ⟨World.ownsRow_nil _ _ _ _, ⟨none, 0, RNm_new w⟩, below_alloc _ _, Nat.le_refl _⟩ ?_
    intro V1 hP1
    generalize hpr : w.heap.size = pr at *
    go_loopw [5, 7, 8] (fun u e v wx => ∃ i : Nat, i ≤ m ∧ v = .int .i64 (i : Int) ∧ e = .int .i64 ((firstN f i).1 : Int) ∧ P1 w wx pr u i (entsC (ents (f.take i))) (firstN f i).2) (fun _ _ v _ => m - (intOf v).toNat)
    case atStart => exact ⟨0, Nat.zero_le _, rfl, rfl, hP1⟩
    case round =>
      clear hP1
      obtain ⟨i, hi, rfl, rfl, hP⟩ := hrel
      by_cases hlt : i < m
      · as_aux_lemma =>
          have hd8 : decide (i < m) = true := by simp; omega
          have hkl : i < f.length := by rw [HF.out]; exact hlt
          obtain ⟨b, o, rfl, c0, c1, c2⟩ := HR1.out.at_ hkl
          have hok := HO1.out _ (List.getElem_mem hkl)
          have hsl := HS1.out _ (List.getElem_mem hkl)
          have HFS := Lib.hid (firstN_succ hkl)
          have HES := Lib.hid (ents_succ hkl)
          have HFL := Lib.hid (firstN_len f i)
          generalize f[i] = a at *
          obtain ⟨k, s, p⟩ := a
          have hp := hok.wf
          simp only at c0 c1 c2 hsl hp HFS HES
          have HC : Hid (∀ V, Below w.heap.size w V → V.cell? ⟨b, o + i * 3 + 1, none⟩ = some (.string ⟨s.toArray⟩) ∧ V.cell? ⟨b, o + i * 3 + 2, none⟩ = some (.int .i64 p)) := fun V hV =>
            ⟨(hV.cell (World.block_lt_of_cell? w _ c1)).trans c1, (hV.cell (World.block_lt_of_cell? w _ c2)).trans c2⟩
          clear c0 c1 c2 hok hkl
          obtain ⟨⟨er, L⟩, hq⟩ : ∃ q, firstN f i = q := ⟨_, rfl⟩
          rw [hq] at hP HFS HFL
          rw [hq]
          have HQ := Lib.hid hq
          clear hq
          simp only at hP HFL ⊢
          generalize entsC (ents (f.take i)) = xs at *
          have HP := Lib.hid (hP.keep (Below.refl _ _).drew)
          have hbw := HP.out.bel
          clear hP
          go_upto_region 9 with (fail)
          refine wp_region_W 14 (fun V => Below w.heap.size w V) (by kernel_rfl) ?_ (fun hS0 => ?_)
          · exact hbw
          (refine wpAnyW_take (i := 0) (v := ?_) rfl (by kernel_rfl) (by kernel_rfl) (by kernel_rfl) (by kernel_rfl) (fun _ _ _ h => h) (Or.inl ⟨by kernel_rfl, ?_⟩) (by assumption) ?_; rotate_left; focus (intro V9 hS9; go_simp; (try (with_reducible rfl)); done))
          try simp only [Act.put, List.getElem_toArray, List.getElem_cons_zero, List.setIfInBounds_toArray, List.set_cons_succ, List.set_cons_zero]
          (refine wpAnyW_take (i := 1) (v := ?_) rfl (by kernel_rfl) (by kernel_rfl) (by kernel_rfl) (by kernel_rfl) (fun _ _ _ h => h) (Or.inl ⟨by kernel_rfl, ?_⟩) (by assumption) ?_; rotate_left; focus (intro V9 hS9; go_simp; (try (with_reducible rfl)); done))
          try simp only [Act.put, List.getElem_toArray, List.getElem_cons_succ, List.getElem_cons_zero, List.setIfInBounds_toArray, List.set_cons_succ, List.set_cons_zero]
          (refine wpAnyW_take (i := 2) (v := ?_) rfl (by kernel_rfl) (by kernel_rfl) (by kernel_rfl) (by kernel_rfl) (fun _ _ _ h => h) (Or.inl ⟨by kernel_rfl, ?_⟩) (by assumption) ?_; rotate_left; focus (intro V9 hS9; go_simp; (try (with_reducible rfl)); done))
          try simp only [Act.put, List.getElem_toArray, List.getElem_cons_succ, List.getElem_cons_zero, List.setIfInBounds_toArray, List.set_cons_succ, List.set_cons_zero]
          (refine wpAnyW_take (i := 3) (v := ?_) rfl (by kernel_rfl) (by kernel_rfl) (by kernel_rfl) (by kernel_rfl) (fun _ _ _ h => h) (Or.inl ⟨by kernel_rfl, ?_⟩) (by assumption) ?_; rotate_left; focus (intro V9 hS9; go_simp; (try (with_reducible rfl)); done))
          try simp only [Act.put, List.getElem_toArray, List.getElem_cons_succ, List.getElem_cons_zero, List.setIfInBounds_toArray, List.set_cons_succ, List.set_cons_zero]
          (refine wpAnyW_take (i := 4) (v := ?_) rfl (by kernel_rfl) (by kernel_rfl) (by kernel_rfl) (by kernel_rfl) (fun _ _ _ h => h) (Or.inl ⟨by kernel_rfl, ?_⟩) (by assumption) ?_; rotate_left; focus (intro V9 hS9; go_simp; (try (with_reducible rfl)); done))
          try simp only [Act.put, List.getElem_toArray, List.getElem_cons_succ, List.getElem_cons_zero, List.setIfInBounds_toArray, List.set_cons_succ, List.set_cons_zero]
          (refine wpAnyW_take (i := 5) (v := ?_) rfl (by kernel_rfl) (by kernel_rfl) (by kernel_rfl) (by kernel_rfl) (fun _ _ _ h => h) (Or.inl ⟨by kernel_rfl, ?_⟩) (by assumption) ?_; rotate_left; focus (intro V9 hS9; have g0 := (HC.out _ hS9).1; go_simp; (try (with_reducible rfl)); done))
          try simp only [Act.put, List.getElem_toArray, List.getElem_cons_succ, List.getElem_cons_zero, List.setIfInBounds_toArray, List.set_cons_succ, List.set_cons_zero]
          (refine wpAnyW_take (i := 6) (v := ?_) rfl (by kernel_rfl) (by kernel_rfl) (by kernel_rfl) (by kernel_rfl) (fun _ _ _ h => h) (Or.inl ⟨by kernel_rfl, ?_⟩) (by assumption) ?_; rotate_left; focus (intro V9 hS9; go_simp; (try (with_reducible rfl)); done))
          try simp only [Act.put, List.getElem_toArray, List.getElem_cons_succ, List.getElem_cons_zero, List.setIfInBounds_toArray, List.set_cons_succ, List.set_cons_zero]
          (refine wpAnyW_take (i := 7) (v := ?_) rfl (by kernel_rfl) (by kernel_rfl) (by kernel_rfl) (by kernel_rfl) (fun _ _ _ h => h) (Or.inl ⟨by kernel_rfl, ?_⟩) (by assumption) ?_; rotate_left; focus (intro V9 hS9; go_simp; (try (with_reducible rfl)); done))
          try simp only [Act.put, List.getElem_toArray, List.getElem_cons_succ, List.getElem_cons_zero, List.setIfInBounds_toArray, List.set_cons_succ, List.set_cons_zero]
          (refine wpAnyW_take (i := 8) (v := ?_) rfl (by kernel_rfl) (by kernel_rfl) (by kernel_rfl) (by kernel_rfl) (fun _ _ _ h => h) (Or.inl ⟨by kernel_rfl, ?_⟩) (by assumption) ?_; rotate_left; focus (intro V9 hS9; go_simp; (try (with_reducible rfl)); done))
          try simp only [Act.put, List.getElem_toArray, List.getElem_cons_succ, List.getElem_cons_zero, List.setIfInBounds_toArray, List.set_cons_succ, List.set_cons_zero]
          (refine wpAnyW_take (i := 9) (v := ?_) rfl (by kernel_rfl) (by kernel_rfl) (by kernel_rfl) (by kernel_rfl) (fun _ _ _ h => h) (Or.inl ⟨by kernel_rfl, ?_⟩) (by assumption) ?_; rotate_left; focus (intro V9 hS9; go_simp; (try (with_reducible rfl)); done))
          try simp only [Act.put, List.getElem_toArray, List.getElem_cons_succ, List.getElem_cons_zero, List.setIfInBounds_toArray, List.set_cons_succ, List.set_cons_zero]
          (refine wpAnyW_take (i := 10) (v := ?_) rfl (by kernel_rfl) (by kernel_rfl) (by kernel_rfl) (by kernel_rfl) (fun _ _ _ h => h) (Or.inl ⟨by kernel_rfl, ?_⟩) (by assumption) ?_; rotate_left; focus (intro V9 hS9; have g0 := (HC.out _ hS9).2; go_simp; (try (with_reducible rfl)); done))
          try simp only [Act.put, List.getElem_toArray, List.getElem_cons_succ, List.getElem_cons_zero, List.setIfInBounds_toArray, List.set_cons_succ, List.set_cons_zero]
          (refine wpAnyW_take (i := 11) (v := ?_) rfl (by kernel_rfl) (by kernel_rfl) (by kernel_rfl) (by kernel_rfl) (fun _ _ _ h => h) (Or.inl ⟨by kernel_rfl, ?_⟩) (by assumption) ?_; rotate_left; focus (intro V9 hS9; go_simp; (try (with_reducible rfl)); done))
          try simp only [Act.put, List.getElem_toArray, List.getElem_cons_succ, List.getElem_cons_zero, List.setIfInBounds_toArray, List.set_cons_succ, List.set_cons_zero]
          refine wpAnyW_ready (rs := [12]) (by kernel_rfl) (by simp) ?_
          refine AllReadyW.cons rfl (fun K hK => ?_) AllReadyW.nil
          go_simp
          refine hK.out _ _ (below_step hS0 (below_alloc _ _)) (fun _ => ?_)
          clear hK K
          try simp only [Act.put, List.getElem_toArray, List.getElem_cons_succ, List.getElem_cons_zero, List.setIfInBounds_toArray, List.set_cons_succ, List.set_cons_zero]
          have HPA := Lib.hid (HP.out.keep (below_alloc _ (.cells #[.string ⟨s.toArray⟩, .int .i64 p] 33)))
          have HCS := Lib.hid (cs_one2 (Blk.new wr.drew 33 #[.string ⟨s.toArray⟩, .int .i64 p]))
          refine wpAnyW_ready (rs := [13]) (by kernel_rfl) (by simp) ?_
          refine AllReadyW.cons rfl (fun K hK => ?_) AllReadyW.nil
          refine step_appO entT (by kernel_rfl) (.tmp 37) (.tmp 49) rfl w.heap.size i xs _ HPA.out.own _ 1 1 [.string ⟨s.toArray⟩, .int .i64 p] (by rfl) (by rfl) rfl HCS.out (entC_one (s, p)) (by unfold maxLen; omega) (by omega) HPA.out.bel.size ?_
          intro v2 V2 ho2 hg2 _
          have HP2 := Lib.hid (HPA.out.grow ho2 hg2)
          refine hK.out _ _ HP2.out.bel (fun _ => ?_)
          clear hK K
          try simp only [Act.put, List.getElem_toArray, List.getElem_cons_succ, List.getElem_cons_zero, List.setIfInBounds_toArray, List.set_cons_succ, List.set_cons_zero]
          refine wpAnyW_ready (rs := [14]) (by kernel_rfl) (by simp) ?_
          refine AllReadyW.consE rfl (by kernel_rfl) (fun K hK => ?_) AllReadyW.nil
          go_simp
          refine hK.out _ _ ?_
          clear hK K
          refine wpAnyW_done (by kernel_rfl) ?_ _
          clear hS0 hbw HP HPA HCS ho2 hg2
          rw [← HES.out] at HP2
          have hbw := HP2.out.bel
          by_cases her : er = 0
          · subst her
            have HRA := Lib.hid (radd_of (HP2.out.keep (Below.refl _ _).drew).rf hbw.drew HP2.out.lp s p (by unfold maxLen; omega) (by have := HFL.out; omega))
            have HST := Lib.hid (show firstN f (i + 1) = addP L s p by rw [HFS.out]; unfold stepN; rw [if_pos rfl])
            have s0 := HC.out _ hbw.drew
            have HP3 := Lib.hid (HP2.out.keep (Below.refl _ _).drew)
            go_upto_region 11 with (fail)
            go_region_held3 (fun V => V.cell? ⟨b, o + i * 3 + 1, none⟩ = some (.string ⟨s.toArray⟩) ∧ V.cell? ⟨b, o + i * 3 + 2, none⟩ = some (.int .i64 p)) (first | exact s0 | exact HC.out _ (HP3.out.turn hR hFr).bel) ((go_at_call 9; refine HRA.out.mono ?_; rintro e w' ⟨rfl, hR, hFr⟩))
            all_goals
              go_wp2
              go_roundw
              case rel => exact ⟨i + 1, by omega, by go_num, by rw [HST.out], by rw [HST.out]; exact HP3.out.turn hR hFr⟩
              case measure => simp [intOf]; omega
          · have hne : ((er : Int) == 0) = false := by simp; omega
            have HST := Lib.hid (show firstN f (i + 1) = (er, L) by rw [HFS.out]; unfold stepN; rw [if_neg her])
            go_wp2
            go_roundw
            case rel => exact ⟨i + 1, by omega, by go_num, by rw [HST.out], by rw [HST.out]; exact HP2.out⟩
            case measure => simp [intOf]; omega
      · have hd8 : decide (i < m) = false := by simp; omega
        obtain rfl : i = m := by omega
        rw [List.take_of_length_le (Nat.le_of_eq HF.out), firstN_all HF.out] at hP
        rw [firstN_all HF.out]
        have hle : (ents f).length = i := by unfold ents; rw [List.length_map, HF.out]
        have HQL := Lib.hid (show (newP [] (ents f)).2.length ≤ i by rw [← firstN_all HF.out]; exact firstN_len f i)
        obtain ⟨A3, c3, rfl, hrd⟩ := rde_own hP.own hle
        have HNW := Lib.hid (nnew_any (ents f) A3 i c3 wr hle (by omega) hrd (fun x hx => by
          unfold ents at hx
          obtain ⟨a, ha, rfl⟩ := List.mem_map.1 hx
          exact ⟨by have := HS1.out a ha; simp only; unfold maxLen; omega, (HO1.out a ha).wf⟩))
        have HP := Lib.hid hP
        clear hP hle hrd
        unfold NNewEnds at HNW
        obtain ⟨⟨er, L⟩, hq⟩ : ∃ q, newP [] (ents f) = q := ⟨_, rfl⟩
        rw [hq] at HP HNW HQL
        rw [hq]
        clear hq
        simp only at HP HNW HQL ⊢
        by_cases her : er = 0
        · subst her
          go_upto_region 16 with (first
            | (go_at_call 10; refine HNW.out.mono ?_; rintro e w3 ⟨hb3, h3⟩; rcases h3 with ⟨h9, _⟩ | ⟨_, pn, b1, b2, rfl, hN3, z0, z1, z2⟩; · exact absurd rfl h9)
            | (go_at_call 11; refine (num_any _ _).mono ?_; rintro e w' ⟨rfl, rfl⟩))
          have hz := HP.out.bel.size
          have hB : Bo w w3 pn b1 b2 pr L L := ⟨⟨hN3, below_step HP.out.bel hb3, by omega, by omega, by omega⟩, (HP.out.keep hb3).rf, HP.out.lp⟩
          clear hN3 hb3 z0 z1 z2 HNW hz
          have HQ2 := Lib.hid (show L.length ≤ 150 by have := HQL.out; omega)
          clear HQL
          go_loopw [11] (fun v wx => ∃ (j : Nat) (L : NL), j ≤ n ∧ v = .int .i64 (j : Int) ∧ Bo w wx pn b1 b2 pr L L ∧ L.length ≤ 150 + j) (fun v _ => n - (intOf v).toNat)
          case atStart => exact ⟨0, L, Nat.zero_le _, rfl, hB, HQ2.out⟩
          case round =>
            clear hB HQ2
            obtain ⟨j, L, hj, rfl, hB, hlen⟩ := hrel
            by_cases hjn : j < n
            · have hd9 : decide (j < n) = true := by simp; omega
              have hjl : j < l.length := by rw [HL.out]; exact hjn
              obtain ⟨b, o, rfl, c0, c1, c2⟩ := HR2.out.at_ hjl
              have hok := HO2.out _ (List.getElem_mem hjl)
              have hsl := HS2.out _ (List.getElem_mem hjl)
              generalize l[j] = a at *
              obtain ⟨k, s, p⟩ := a
              have hp := hok.wf
              simp only at c0 c1 c2 hsl hp
              have hbw := hB.nm.bel
              have e0 := (hbw.cell (World.block_lt_of_cell? w _ c0)).trans c0
              have e1 := (hbw.cell (World.block_lt_of_cell? w _ c1)).trans c1
              have e2 := (hbw.cell (World.block_lt_of_cell? w _ c2)).trans c2
              clear c0 c1 c2 hok hjl hbw
              go_upto_region 19 with (fail)
              refine wp_world (fun V => Bx w V pn b1 b2 pr wr.heap.size ⟨k, s, p⟩ L L) ⟨hB.keep (below_alloc _ _), Blk.new _ _ _⟩ ?_
              clear hB e0 e1 e2
              intro V4 hX
              generalize wr.heap.size = ga at hX ⊢
              have q0 := hX.act.cell 0
              have q1 := hX.act.cell 1
              have q2 := hX.act.cell 2
              simp only at q0 q1 q2
              -- WAYS
              by_cases hk0 : k = 0
              · subst hk0
                as_aux_lemma =>
                  obtain ⟨K, hok⟩ := hX.bo.nm.at_.ok
                  have HA := Lib.hid (fun V L1 (h : Bx w V pn b1 b2 pr ga ⟨0, s, p⟩ L L1) => h.add (by simp only; unfold maxLen; omega) hp (by omega))
                  have HR := Lib.hid (fun V L1 (h : Bx w V pn b1 b2 pr ga ⟨0, s, p⟩ L1 L) => h.radd (by simp only; unfold maxLen; omega) (by omega))
                  have HLEN := Lib.hid (show (addP L s p).2.length ≤ 150 + (j + 1) from (by have := addP_len L s p; omega))
                  obtain ⟨⟨r, L2⟩, hx⟩ : ∃ x, addP L s p = x := ⟨_, rfl⟩
                  simp only at HA HR
                  rw [hx] at HA HR HLEN
                  simp only at HA HR HLEN
                  clear hx hok
                  have hXd := hX.keep (Below.refl _ _).drew
                  have HA1 := Lib.hid (HA.out _ _ hXd)
                  have HR1 := Lib.hid (HR.out _ _ hXd)
                  have s0 := hXd.act.cell 1
                  have s0' := hXd.act.cell 2
                  simp only at s0 s0'
                  clear hXd hX
                  go_upto_region 22 with (fail)
                  go_region_held3 (fun V => V.cell? ⟨ga, 1, none⟩ = some (.string ⟨s.toArray⟩) ∧ V.cell? ⟨ga, 2, none⟩ = some (.int .i64 p)) (first | exact ⟨s0, s0'⟩ | exact ⟨hX1.act.cell 1, hX1.act.cell 2⟩ | exact ⟨hY1.act.cell 1, hY1.act.cell 2⟩ | exact ⟨hX2.act.cell 1, hX2.act.cell 2⟩) ((first
                    | (go_at_call 12; (with_reducible refine HA1.out.mono ?_); rintro e w' ⟨rfl, hX1⟩; have HR2 := Lib.hid (HR.out _ _ hX1))
                    | (go_at_call 9; (with_reducible refine HR1.out.mono ?_); rintro e w' ⟨rfl, hY1⟩; have HA2 := Lib.hid (HA.out _ _ hY1))
                    | (go_at_call 12; (with_reducible refine HA2.out.mono ?_); rintro e w' ⟨rfl, hX2⟩)
                    | (go_at_call 9; (with_reducible refine HR2.out.mono ?_); rintro e w' ⟨rfl, hX2⟩)
                    | (go_at_call 11; refine (num_any _ _).mono ?_; rintro e w' ⟨rfl, rfl⟩)))
                  all_goals
                    go_upto_region 27 with (fail)
                    refine wp_world (fun V => Bx w V pn b1 b2 pr ga ⟨0, s, p⟩ L2 L2) hX2 ?_
                    intro V5 hX5
                    have HX5 := Lib.hid hX5
                    have HF := Lib.hid (hX5.find (by simp only; unfold maxLen; omega))
                    have HRF := Lib.hid (hX5.rfind (by have := HLEN.out; omega))
                    have HOF := Lib.hid (hX5.of hp)
                    have HROF := Lib.hid (hX5.rof (by have := HLEN.out; omega))
                    have HSM := Lib.hid (hX5.same (by have := HLEN.out; omega))
                    have t1 := hX5.act.cell 1
                    have t2 := hX5.act.cell 2
                    clear hX5
                    simp only at HF HRF HOF HROF t1 t2
                    generalize (get1 L2 s).getD 0 = y0 at *
                    generalize (get1 L2 s).isSome = y1 at *
                    generalize (of1 L2 p).getD [] = y2 at *
                    generalize (of1 L2 p).isSome = y3 at *
                    go_wp2_with (first
                      | (go_at_call 17; refine HF.out.mono ?_; rintro e w' ⟨rfl, rfl⟩)
                      | (go_at_call 18; refine HRF.out.mono ?_; rintro e w' ⟨rfl, rfl⟩)
                      | (go_at_call 19; refine HOF.out.mono ?_; rintro e w' ⟨rfl, rfl⟩)
                      | (go_at_call 20; refine HROF.out.mono ?_; rintro e w' ⟨rfl, rfl⟩)
                      | (go_at_call 21; refine HSM.out.mono ?_; rintro e w6 ⟨rfl, hB6⟩))
                    go_roundw
                    case rel => exact ⟨j + 1, L2, by omega, by go_num, hB6, HLEN.out⟩
                    case measure => simp [intOf]; omega
              · have hd0 : (k == 0) = false := by simp [hk0]
                by_cases hk1 : k = 1
                · subst hk1
                  as_aux_lemma =>
                    obtain ⟨K, hok⟩ := hX.bo.nm.at_.ok
                    have HA := Lib.hid (fun V L1 (h : Bx w V pn b1 b2 pr ga ⟨1, s, p⟩ L L1) => h.remove (by simp only; unfold maxLen; omega))
                    have HR := Lib.hid (fun V L1 (h : Bx w V pn b1 b2 pr ga ⟨1, s, p⟩ L1 L) => h.rremove hok (by omega))
                    have HLEN := Lib.hid (show (removeP L s).2.length ≤ 150 + (j + 1) from (by have := removeP_len L s; omega))
                    obtain ⟨⟨r, L2⟩, hx⟩ : ∃ x, removeP L s = x := ⟨_, rfl⟩
                    simp only at HA HR
                    rw [hx] at HA HR HLEN
                    simp only at HA HR HLEN
                    clear hx hok
                    have hXd := hX.keep (Below.refl _ _).drew
                    have HA1 := Lib.hid (HA.out _ _ hXd)
                    have HR1 := Lib.hid (HR.out _ _ hXd)
                    have s0 := hXd.act.cell 1
                    have s0' := hXd.act.cell 2
                    simp only at s0 s0'
                    clear hXd hX
                    go_upto_region 24 with (fail)
                    go_region_held3 (fun V => V.cell? ⟨ga, 1, none⟩ = some (.string ⟨s.toArray⟩) ∧ V.cell? ⟨ga, 2, none⟩ = some (.int .i64 p)) (first | exact ⟨s0, s0'⟩ | exact ⟨hX1.act.cell 1, hX1.act.cell 2⟩ | exact ⟨hY1.act.cell 1, hY1.act.cell 2⟩ | exact ⟨hX2.act.cell 1, hX2.act.cell 2⟩) ((first
                      | (go_at_call 13; (with_reducible refine HA1.out.mono ?_); rintro e w' ⟨rfl, hX1⟩; have HR2 := Lib.hid (HR.out _ _ hX1))
                      | (go_at_call 14; (with_reducible refine HR1.out.mono ?_); rintro e w' ⟨rfl, hY1⟩; have HA2 := Lib.hid (HA.out _ _ hY1))
                      | (go_at_call 13; (with_reducible refine HA2.out.mono ?_); rintro e w' ⟨rfl, hX2⟩)
                      | (go_at_call 14; (with_reducible refine HR2.out.mono ?_); rintro e w' ⟨rfl, hX2⟩)))
                    all_goals
                      go_upto_region 27 with (fail)
                      refine wp_world (fun V => Bx w V pn b1 b2 pr ga ⟨1, s, p⟩ L2 L2) hX2 ?_
                      intro V5 hX5
                      have HX5 := Lib.hid hX5
                      have HF := Lib.hid (hX5.find (by simp only; unfold maxLen; omega))
                      have HRF := Lib.hid (hX5.rfind (by have := HLEN.out; omega))
                      have HOF := Lib.hid (hX5.of hp)
                      have HROF := Lib.hid (hX5.rof (by have := HLEN.out; omega))
                      have HSM := Lib.hid (hX5.same (by have := HLEN.out; omega))
                      have t1 := hX5.act.cell 1
                      have t2 := hX5.act.cell 2
                      clear hX5
                      simp only at HF HRF HOF HROF t1 t2
                      generalize (get1 L2 s).getD 0 = y0 at *
                      generalize (get1 L2 s).isSome = y1 at *
                      generalize (of1 L2 p).getD [] = y2 at *
                      generalize (of1 L2 p).isSome = y3 at *
                      go_wp2_with (first
                        | (go_at_call 17; refine HF.out.mono ?_; rintro e w' ⟨rfl, rfl⟩)
                        | (go_at_call 18; refine HRF.out.mono ?_; rintro e w' ⟨rfl, rfl⟩)
                        | (go_at_call 19; refine HOF.out.mono ?_; rintro e w' ⟨rfl, rfl⟩)
                        | (go_at_call 20; refine HROF.out.mono ?_; rintro e w' ⟨rfl, rfl⟩)
                        | (go_at_call 21; refine HSM.out.mono ?_; rintro e w6 ⟨rfl, hB6⟩))
                      go_roundw
                      case rel => exact ⟨j + 1, L2, by omega, by go_num, hB6, HLEN.out⟩
                      case measure => simp [intOf]; omega
                · have hd1 : (k == 1) = false := by simp [hk1]
                  by_cases hk2 : k = 2
                  · subst hk2
                    as_aux_lemma =>
                      obtain ⟨K, hok⟩ := hX.bo.nm.at_.ok
                      have HA := Lib.hid (fun V L1 (h : Bx w V pn b1 b2 pr ga ⟨2, s, p⟩ L L1) => h.drop hp)
                      have HR := Lib.hid (fun V L1 (h : Bx w V pn b1 b2 pr ga ⟨2, s, p⟩ L1 L) => h.rdrop hok (by omega))
                      have HLEN := Lib.hid (show (dropP L p).2.length ≤ 150 + (j + 1) from (by have := dropP_len L p; omega))
                      obtain ⟨⟨r, L2⟩, hx⟩ : ∃ x, dropP L p = x := ⟨_, rfl⟩
                      simp only at HA HR
                      rw [hx] at HA HR HLEN
                      simp only at HA HR HLEN
                      clear hx hok
                      have hXd := hX.keep (Below.refl _ _).drew
                      have HA1 := Lib.hid (HA.out _ _ hXd)
                      have HR1 := Lib.hid (HR.out _ _ hXd)
                      have s0 := hXd.act.cell 1
                      have s0' := hXd.act.cell 2
                      simp only at s0 s0'
                      clear hXd hX
                      go_upto_region 26 with (fail)
                      go_region_held3 (fun V => V.cell? ⟨ga, 1, none⟩ = some (.string ⟨s.toArray⟩) ∧ V.cell? ⟨ga, 2, none⟩ = some (.int .i64 p)) (first | exact ⟨s0, s0'⟩ | exact ⟨hX1.act.cell 1, hX1.act.cell 2⟩ | exact ⟨hY1.act.cell 1, hY1.act.cell 2⟩ | exact ⟨hX2.act.cell 1, hX2.act.cell 2⟩) ((first
                        | (go_at_call 15; (with_reducible refine HA1.out.mono ?_); rintro e w' ⟨rfl, hX1⟩; have HR2 := Lib.hid (HR.out _ _ hX1))
                        | (go_at_call 16; (with_reducible refine HR1.out.mono ?_); rintro e w' ⟨rfl, hY1⟩; have HA2 := Lib.hid (HA.out _ _ hY1))
                        | (go_at_call 15; (with_reducible refine HA2.out.mono ?_); rintro e w' ⟨rfl, hX2⟩)
                        | (go_at_call 16; (with_reducible refine HR2.out.mono ?_); rintro e w' ⟨rfl, hX2⟩)))
                      all_goals
                        go_upto_region 27 with (fail)
                        refine wp_world (fun V => Bx w V pn b1 b2 pr ga ⟨2, s, p⟩ L2 L2) hX2 ?_
                        intro V5 hX5
                        have HX5 := Lib.hid hX5
                        have HF := Lib.hid (hX5.find (by simp only; unfold maxLen; omega))
                        have HRF := Lib.hid (hX5.rfind (by have := HLEN.out; omega))
                        have HOF := Lib.hid (hX5.of hp)
                        have HROF := Lib.hid (hX5.rof (by have := HLEN.out; omega))
                        have HSM := Lib.hid (hX5.same (by have := HLEN.out; omega))
                        have t1 := hX5.act.cell 1
                        have t2 := hX5.act.cell 2
                        clear hX5
                        simp only at HF HRF HOF HROF t1 t2
                        generalize (get1 L2 s).getD 0 = y0 at *
                        generalize (get1 L2 s).isSome = y1 at *
                        generalize (of1 L2 p).getD [] = y2 at *
                        generalize (of1 L2 p).isSome = y3 at *
                        go_wp2_with (first
                          | (go_at_call 17; refine HF.out.mono ?_; rintro e w' ⟨rfl, rfl⟩)
                          | (go_at_call 18; refine HRF.out.mono ?_; rintro e w' ⟨rfl, rfl⟩)
                          | (go_at_call 19; refine HOF.out.mono ?_; rintro e w' ⟨rfl, rfl⟩)
                          | (go_at_call 20; refine HROF.out.mono ?_; rintro e w' ⟨rfl, rfl⟩)
                          | (go_at_call 21; refine HSM.out.mono ?_; rintro e w6 ⟨rfl, hB6⟩))
                        go_roundw
                        case rel => exact ⟨j + 1, L2, by omega, by go_num, hB6, HLEN.out⟩
                        case measure => simp [intOf]; omega
                  · have hd2 : (k == 2) = false := by simp [hk2]
                    as_aux_lemma =>
                      obtain ⟨L2, hL2⟩ : ∃ L2, L = L2 := ⟨_, rfl⟩
                      rw [hL2] at hX hlen
                      have HLEN := Lib.hid (show L2.length ≤ 150 + (j + 1) by omega)
                      clear hL2
                      have hX2 := hX
                      clear hX
                      go_upto_region 27 with (fail)
                      refine wp_world (fun V => Bx w V pn b1 b2 pr ga ⟨k, s, p⟩ L2 L2) hX2 ?_
                      intro V5 hX5
                      have HX5 := Lib.hid hX5
                      have HF := Lib.hid (hX5.find (by simp only; unfold maxLen; omega))
                      have HRF := Lib.hid (hX5.rfind (by have := HLEN.out; omega))
                      have HOF := Lib.hid (hX5.of hp)
                      have HROF := Lib.hid (hX5.rof (by have := HLEN.out; omega))
                      have HSM := Lib.hid (hX5.same (by have := HLEN.out; omega))
                      have t1 := hX5.act.cell 1
                      have t2 := hX5.act.cell 2
                      clear hX5
                      simp only at HF HRF HOF HROF t1 t2
                      generalize (get1 L2 s).getD 0 = y0 at *
                      generalize (get1 L2 s).isSome = y1 at *
                      generalize (of1 L2 p).getD [] = y2 at *
                      generalize (of1 L2 p).isSome = y3 at *
                      go_wp2_with (first
                        | (go_at_call 17; refine HF.out.mono ?_; rintro e w' ⟨rfl, rfl⟩)
                        | (go_at_call 18; refine HRF.out.mono ?_; rintro e w' ⟨rfl, rfl⟩)
                        | (go_at_call 19; refine HOF.out.mono ?_; rintro e w' ⟨rfl, rfl⟩)
                        | (go_at_call 20; refine HROF.out.mono ?_; rintro e w' ⟨rfl, rfl⟩)
                        | (go_at_call 21; refine HSM.out.mono ?_; rintro e w6 ⟨rfl, hB6⟩))
                      go_roundw
                      case rel => exact ⟨j + 1, L2, by omega, by go_num, hB6, HLEN.out⟩
                      case measure => simp [intOf]; omega
              -- WAYS END
            · have hd9 : decide (j < n) = false := by simp; omega
              have HLV := Lib.hid (live_any wr)
              have HB := Lib.hid hB
              clear hB
              go_wp2_with (go_at_call 8; refine HLV.out.mono ?_; rintro e w9 ⟨rfl, hb9⟩)
              go_ret
              exact ⟨rfl, below_step HB.out.nm.bel hb9⟩
        · as_aux_lemma =>
            have hne : ((er : Int) == 0) = false := by simp; omega
            have hne' : ((er : Int) != 0) = true := by simp; omega
            go_upto_region 16 with (first
              | (go_at_call 10; refine HNW.out.mono ?_; rintro e w3 ⟨hb3, h3⟩; rcases h3 with ⟨_, rfl⟩ | ⟨h9, _⟩; rotate_left; · exact absurd h9 her)
              | (go_at_call 11; refine (num_any _ _).mono ?_; rintro e w' ⟨rfl, rfl⟩))
            have HB := Lib.hid (below_step HP.out.bel hb3)
            have HLV := Lib.hid (live_any w3)
            clear HNW hb3 HP
            go_loopw [11] (fun v wx => v = .int .i64 0 ∧ wx = w3) (fun _ _ => 0)
            case atStart => exact ⟨rfl, rfl⟩
            case round =>
              obtain ⟨rfl, rfl⟩ := hrel
              rcases Nat.eq_zero_or_pos n with hz | hz
              all_goals
                have hd : decide ((0 : Int) < (n : Int)) = decide (0 < n) := by simp
                first
                  | (have hd' : decide ((0 : Int) < (n : Int)) = true := by simp; omega)
                  | (have hd' : decide ((0 : Int) < (n : Int)) = false := by simp; omega)
                clear hd
                go_wp2_with (go_at_call 8; refine HLV.out.mono ?_; rintro e w9 ⟨rfl, hb9⟩)
                go_ret
                exact ⟨rfl, below_step HB.out hb9⟩
  · have HLV := Lib.hid (live_any w)
    have hq : hugeB f = true ∨ (hugeB f = false ∧ hugeB l = true) := by
      cases hh : hugeB f with
      | true => exact .inl rfl
      | false =>
        refine .inr ⟨rfl, ?_⟩
        cases hh2 : hugeB l with
        | true => rfl
        | false => exact absurd ⟨hh, hh2⟩ hgood
    clear hgood hf hl hr1 hr2 ho1 ho2
    rcases hq with hq | ⟨hq, hq2⟩
    · rw [hq] at HH1
      clear hq HH2
      go_enter Try.func3, Try.ntmps3
      go_wp2_with (first
        | (go_at_call 7; refine HH1.out.mono ?_; rintro e w' ⟨rfl, rfl⟩)
        | (go_at_call 8; refine HLV.out.mono ?_; rintro e w' ⟨rfl, hb⟩))
      go_ret
      exact ⟨rfl, hb⟩
    · rw [hq] at HH1
      rw [hq2] at HH2
      clear hq hq2
      go_enter Try.func3, Try.ntmps3
      go_wp2_with (first
        | (go_at_call 7; (with_reducible refine HH1.out.mono ?_); rintro e w' ⟨rfl, rfl⟩)
        | (go_at_call 7; (with_reducible refine HH2.out.mono ?_); rintro e w' ⟨rfl, rfl⟩)
        | (go_at_call 8; refine HLV.out.mono ?_; rintro e w' ⟨rfl, hb⟩))
      go_ret
      exact ⟨rfl, hb⟩
end Go.Proofs.Ytfkolemkmhcbfaa
