/- Names (layer 19): the document's names: Remove, Drop. -/
import Derived.Test.YtfkolemkmhcbfaaNaR
import Derived.Test.YtfkolemkmhcbfaaOrd
namespace Go.Proofs.Ytfkolemkmhcbfaa
open Go.RowKit
set_option linter.unusedVariables false

theorem own_open2 {V : World} {base n cap : Nat} {A : Option Addr} {e : TypeId} {cs : List Value} (ho : V.ownsRow base e 2 (.slice A n cap) n cs) (hA : A ≠ none) :
    ∃ g tl, A = some ⟨g, 0, none⟩ ∧ base ≤ g ∧ Blk V g e (cs ++ tl).toArray ∧ n ≤ cap ∧ cap ≤ maxLen ∧ (cs ++ tl).length = cap * 2 := by
  rcases ho.2 with ⟨hv, hz⟩ | ⟨g, cap', cur, hv, hb, hg, hnc, hcm, hsz, htk⟩
  · exact absurd (Value.slice.inj hv).1 hA
  · obtain ⟨rfl, _, rfl⟩ := Value.slice.inj hv
    have hc : cs ++ cur.toList.drop (n * 2) = cur.toList := by rw [← htk, List.take_append_drop]
    exact ⟨g, cur.toList.drop (n * 2), rfl, hb, by rw [hc]; exact hg, hnc, hcm, by rw [hc]; simpa using hsz⟩
theorem own_grow {w W W' : World} {base e size n : Nat} {v : Value} {xs : List Value} (h : W.ownsRow base e size v n xs) (hb : Below base w W) (hg : W.grownBy W' v.ownBlock) (hs : base ≤ W.heap.size) : Below base w W' :=
  hb.grown hg hs (fun k hk => (World.ownsRow.lt h k hk).1)
theorem own_form2 {W : World} {base e n : Nat} {v : Value} {xs : List Value} (h : W.ownsRow base e 2 v n xs) : ∃ A cap, v = .slice A n cap := by
  rcases h.2 with ⟨hv, hz⟩ | ⟨g, cap, cur, hv, _⟩
  · have h1 := h.1
    rw [hz] at h1
    simp at h1
    have h2 : n = 0 := by omega
    exact ⟨none, 0, by rw [hv, h2]⟩
  · exact ⟨_, _, hv⟩
theorem entRT : ElT Try.prog 27 52 (.agg #[.string ⟨#[]⟩, .int .i64 0]) 2 24 := ⟨Try.underlying27, by kernel_rfl, rfl, by decide⟩
theorem entsC_one (l : NL) : ∀ u ∈ entsC l, u.oneCell' = true := by
  induction l with
  | nil => intro u hu; simp [entsC] at hu
  | cons q r ih =>
    intro u hu
    simp only [entsC, List.mem_append] at hu
    rcases hu with h | h
    · exact entC_one q u h
    · exact ih u h
theorem entsC_take (l : NL) (k : Nat) : (entsC l).take (k * 2) = entsC (l.take k) := by
  induction l generalizing k with
  | nil => simp [entsC]
  | cons q r ih =>
    cases k with
    | zero => simp [entsC]
    | succ k =>
      simp only [entsC, List.take_succ_cons]
      rw [show (k + 1) * 2 = (entC q).length + k * 2 by simp [entC]; omega, List.take_length_add_append, ih]
theorem entsC_drop (l : NL) (k : Nat) : (entsC l).drop (k * 2) = entsC (l.drop k) := by
  induction l generalizing k with
  | nil => simp [entsC]
  | cons q r ih =>
    cases k with
    | zero => simp [entsC]
    | succ k =>
      simp only [entsC, List.drop_succ_cons]
      rw [show (k + 1) * 2 = (entC q).length + k * 2 by simp [entC]; omega, List.drop_length_add_append, ih]
theorem cut_del {L : NL} {i : Nat} (hap : L.Pairwise (fun p q => p.1 ≠ q.1)) (hi : i < L.length) : L.take i ++ L.drop (i + 1) = del1 L L[i].1 := by
  have e : L = L.take i ++ L[i] :: L.drop (i + 1) := by rw [← List.drop_eq_getElem_cons hi, List.take_append_drop]
  generalize L[i] = x at *
  generalize L.take i = a at *
  generalize L.drop (i + 1) = b at *
  subst e
  obtain ⟨_, h2, h3⟩ := List.pairwise_append.1 hap
  obtain ⟨h4, _⟩ := List.pairwise_cons.1 h2
  unfold del1
  rw [List.filter_append, List.filter_cons]
  simp only [beq_self_eq_true, Bool.not_true, Bool.false_eq_true, if_false]
  rw [List.filter_eq_self.2 (fun q hq => by simpa using h3 q hq x (by simp)), List.filter_eq_self.2 (fun q hq => by simpa using (h4 q hq).symm)]

section
variable {W W' : World} {B pr : Nat} {A : Option Addr} {cap : Nat} {L : NL}
/-- What a method of the document's names leaves. -/
def REnd (B pr : Nat) (W : World) (v : Value) (L' : NL) (e : Ending) (W' : World) : Prop := e = .returned v ∧ ∃ A' cap', RNm W' B pr A' cap' L' ∧ Fr (fun k => k = pr) W W'

set_option maxRecDepth 100000 in
set_option maxHeartbeats 4000000 in
theorem rremove_any (h : RNm W B pr A cap L) (hB : B ≤ W.heap.size) (s : List UInt8) (hap : L.Pairwise (fun p q => p.1 ≠ q.1)) (hl : L.length ≤ 1000000) :
    Calls Try.prog 14 #[.pointer (some ⟨pr, 0, none⟩), .string ⟨s.toArray⟩] W (REnd B pr W (.bool (removeP L s).1) (removeP L s).2) := by
  have c0 := h.obj.cell 0
  have HH := Lib.hid h
  have HAP := Lib.hid hap
  obtain ⟨n, hn⟩ : ∃ n, L.length = n := ⟨_, rfl⟩
  rw [hn] at c0 hl
  have HN := Lib.hid hn
  clear h hn hap
  go_enter Try.func14, Try.ntmps14
  go_wp2
  go_loop [5] (fun v => ∃ i : Nat, i ≤ n ∧ v = .int .i64 (i : Int) ∧ get1 L s = get1 (L.drop i) s) (fun v => n - (intOf v).toNat)
  case atStart => exact ⟨0, Nat.zero_le _, rfl, rfl⟩
  case round =>
    obtain ⟨i, hi, rfl, hg⟩ := hrel
    have HG := Lib.hid hg
    clear hg
    by_cases hlt : i < n
    · have hd8 : decide (i < n) = true := by simp; omega
      have hkl : i < L.length := by rw [HN.out]; exact hlt
      obtain ⟨g, rfl, e0, e1⟩ := own_ent HH.out.row rfl hkl
      have HD := Lib.hid (get1_drop (s := s) hkl)
      have HCD := Lib.hid (cut_del HAP.out hkl)
      generalize L[i] = x at *
      obtain ⟨s1, p1⟩ := x
      simp only at e0 e1 HD HCD
      cases hq : (s1 == s) with
      | false =>
        have HE := Lib.hid (show get1 L s = get1 (L.drop (i + 1)) s by rw [HG.out, HD.out, hq]; rfl)
        clear hkl
        go_wp2
        go_round
        case rel => exact ⟨i + 1, by omega, by go_num, HE.out⟩
        case measure => simp [intOf]; omega
      | true =>
        have hss : s1 = s := by simpa using hq
        have HE := Lib.hid (show removeP L s = (true, L.take i ++ L.drop (i + 1)) by unfold removeP; rw [HG.out, HD.out, hq, HCD.out, hss]; rfl)
        obtain ⟨g', tl, eg, hgB, hblk, hnc, hcm, _⟩ := own_open2 HH.out.row (by simp)
        obtain rfl : g = g' := by
          injection eg with eg
          injection eg
        have hrow : B ≤ g := hgB
        have hnr := HH.out.nrow g rfl
        have hwg := hblk.lt
        obtain ⟨A3, hA3, hcs3⟩ : ∃ A3 : Addr, (if cap = i + 1 then some (⟨g, 0, none⟩ : Addr) else some ⟨g, (i + 1) * 2, none⟩) = some A3 ∧ ∀ V, Blk V g 52 (entsC L ++ tl).toArray → Cs V (some A3) (entsC (L.drop (i + 1))) := by
          by_cases hc : cap = i + 1
          · refine ⟨⟨g, 0, none⟩, by simp [hc], fun V hV => .inl ?_⟩
            rw [List.drop_eq_nil_of_le (by omega)]
            rfl
          · refine ⟨⟨g, (i + 1) * 2, none⟩, by simp [hc], fun V hV => .inr ⟨_, rfl, fun t u hu => ?_⟩⟩
            rw [Addr.add_lit, hV.cell, ← entsC_drop] at *
            rw [List.getElem?_drop] at hu
            simp only [List.getElem?_toArray]
            rw [List.getElem?_append_left (List.getElem?_eq_some_iff.1 hu).1]
            exact hu
        have hcs2 : ∀ V, Blk V g 52 (entsC L ++ tl).toArray → Cs V (some ⟨g, 0, none⟩) (entsC (L.take i)) := fun V hV => .inr ⟨_, rfl, fun t u hu => by
          rw [Addr.add_lit, Nat.zero_add, hV.cell]
          rw [← entsC_take, List.getElem?_take] at hu
          split at hu
          · simp only [List.getElem?_toArray]
            rw [List.getElem?_append_left (List.getElem?_eq_some_iff.1 hu).1]
            exact hu
          · cases hu⟩
        obtain ⟨V0, hV0⟩ : ∃ V0, V0 = W := ⟨_, rfl⟩
        have HSC : Hid (∀ V, Below V0.heap.size V0 V → V.cell? ⟨pr, 0, none⟩ = some (.slice (some ⟨g, 0, none⟩) n cap)) := fun V hV => by subst hV0; rw [← HN.out]; exact (HH.out.keep hV).obj.cell 0
        have HPF : Hid (∀ V, Below V0.heap.size V0 V → V.frozen? ⟨pr, 0, none⟩ = false) := fun V hV => by subst hV0; exact (HH.out.keep hV).obj.frozen 0
        have HC2 : Hid (∀ V, Below V0.heap.size V0 V → Cs V (some ⟨g, 0, none⟩) (entsC (L.take i))) := fun V hV => by subst hV0; exact hcs2 V (hblk.keep hV)
        have HC3 : Hid (∀ V, Below V0.heap.size V0 V → Cs V (some A3) (entsC (L.drop (i + 1)))) := fun V hV => by subst hV0; exact hcs3 V (hblk.keep hV)
        have HL2 := Lib.hid (show (entsC (L.take i)).length = i * 2 by rw [entsC_len, List.length_take]; omega)
        have HL3 := Lib.hid (show (entsC (L.drop (i + 1))).length = (n - (i + 1)) * 2 by rw [entsC_len, List.length_drop, HN.out])
        have HLT := Lib.hid (show (L.take i ++ L.drop (i + 1)).length = i + (n - (i + 1)) by rw [List.length_append, List.length_take, List.length_drop, HN.out]; omega)
        have hplt := HH.out.obj.lt
        have HFIN : Hid (∀ V A2 c2, Below V0.heap.size V0 V → V.ownsRow V0.heap.size 52 2 (.slice A2 (i + (n - (i + 1))) c2) (i + (n - (i + 1))) (entsC (L.take i) ++ entsC (L.drop (i + 1))) → REnd B pr V0 (.bool (removeP L s).1) (removeP L s).2 (.returned (.bool true)) (V.setCell ⟨pr, 0, none⟩ (.slice A2 (i + (n - (i + 1))) c2))) := fun V A2 c2 hb ho => by
          subst hV0
          rw [HE.out]
          have hne : ∀ g, (Value.slice A2 (i + (n - (i + 1))) c2).ownBlock = some g → V0.heap.size ≤ g := fun g hg => (World.ownsRow.lt ho g hg).1
          refine ⟨rfl, A2, c2, ⟨?_, ?_, ?_⟩, (Fr.of_below hb _).same (Fr.setCell (fun k => k = pr) _ (p := ⟨pr, 0, none⟩) (fun _ => rfl) _)⟩
          · rw [HLT.out]; exact (HH.out.obj.keep hb).set_ 0 _
          · rw [HLT.out, entsC_append]
            refine (own_lower ho hB).kept (grown_setCell (grown_refl _ (some pr)) (p := ⟨pr, 0, none⟩) (.inl rfl) _) ?_
            cases hq9 : (Value.slice A2 (i + (n - (i + 1))) c2).ownBlock with
            | none => exact .inl rfl
            | some g9 => exact .inr (fun e9 => by have := hne g9 hq9; injection e9 with e9; omega)
          · rw [HLT.out]
            intro g9 hg9
            have := hne g9 hg9
            omega
        have HO0 := Lib.hid (own_made (W := V0.drew) V0.heap.size 52 2 (Nat.le_refl _))
        have HMM := Lib.hid (show 0 + i + (n - (i + 1)) = i + (n - (i + 1)) by omega)
        have hic : i ≤ cap := by omega
        have hjc : i + 1 ≤ cap := by omega
        have hjn : i + 1 ≤ n := by omega
        have hcm' : cap ≤ 9223372036854775807 := by unfold maxLen at hcm; omega
        have hine : i ≠ i + 1 := by omega
        have y0 : (0 : Int) ≤ (i : Int) := by omega
        have y1 : (0 : Int) ≤ (i : Int) + 1 := by omega
        have y2 : (i : Int) + 1 ≤ (n : Int) := by omega
        have qw : IntKind.i64.wrap ((i : Int) + 1) = ((i + 1 : Nat) : Int) := IntWalk.i64_in _ (by omega)
        have qi : (i : Int) ≤ (cap : Int) := by omega
        clear hcs2 hcs3 hblk hcm hkl eg hss
        rw [← hV0]
        rw [← hV0] at c0 e0 e1
        clear hV0
        go_upto_region 5 with (fail)
        refine wp_region_W 19 (fun V => Below V0.heap.size V0 V) (by kernel_rfl) ?_ (fun hS0 => ?_)
        · exact (Below.refl _ _).drew
        (refine wpAnyW_take (i := 0) (v := ?_) rfl (by kernel_rfl) (by kernel_rfl) (by kernel_rfl) (by kernel_rfl) (fun _ _ _ h => h) (Or.inl ⟨by kernel_rfl, ?_⟩) (by assumption) ?_; rotate_left; focus (intro V9 hS9; go_simp; (try (with_reducible rfl)); done))
        try simp only [Act.put, List.getElem_toArray, List.getElem_cons_zero, List.setIfInBounds_toArray, List.set_cons_succ, List.set_cons_zero]
        (refine wpAnyW_take (i := 2) (v := ?_) rfl (by kernel_rfl) (by kernel_rfl) (by kernel_rfl) (by kernel_rfl) (fun _ _ _ h => h) (Or.inl ⟨by kernel_rfl, ?_⟩) (by assumption) ?_; rotate_left; focus (intro V9 hS9; go_simp; (try (with_reducible rfl)); done))
        try simp only [Act.put, List.getElem_toArray, List.getElem_cons_succ, List.getElem_cons_zero, List.setIfInBounds_toArray, List.set_cons_succ, List.set_cons_zero]
        (refine wpAnyW_take (i := 3) (v := ?_) rfl (by kernel_rfl) (by kernel_rfl) (by kernel_rfl) (by kernel_rfl) (fun _ _ _ h => h) (Or.inl ⟨by kernel_rfl, ?_⟩) (by assumption) ?_; rotate_left; focus (intro V9 hS9; go_simp; (try (with_reducible rfl)); done))
        try simp only [Act.put, List.getElem_toArray, List.getElem_cons_succ, List.getElem_cons_zero, List.setIfInBounds_toArray, List.set_cons_succ, List.set_cons_zero]
        (refine wpAnyW_take (i := 4) (v := ?_) rfl (by kernel_rfl) (by kernel_rfl) (by kernel_rfl) (by kernel_rfl) (fun _ _ _ h => h) (Or.inl ⟨by kernel_rfl, ?_⟩) (by assumption) ?_; rotate_left; focus (intro V9 hS9; go_simp; (try (with_reducible rfl)); done))
        try simp only [Act.put, List.getElem_toArray, List.getElem_cons_succ, List.getElem_cons_zero, List.setIfInBounds_toArray, List.set_cons_succ, List.set_cons_zero]
        (refine wpAnyW_take (i := 5) (v := ?_) rfl (by kernel_rfl) (by kernel_rfl) (by kernel_rfl) (by kernel_rfl) (fun _ _ _ h => h) (Or.inl ⟨by kernel_rfl, ?_⟩) (by assumption) ?_; rotate_left; focus (intro V9 hS9; have g0 := HSC.out V9 hS9; go_simp; (try (with_reducible rfl)); done))
        try simp only [Act.put, List.getElem_toArray, List.getElem_cons_succ, List.getElem_cons_zero, List.setIfInBounds_toArray, List.set_cons_succ, List.set_cons_zero]
        (refine wpAnyW_take (i := 6) (v := ?_) rfl (by kernel_rfl) (by kernel_rfl) (by kernel_rfl) (by kernel_rfl) (fun _ _ _ h => h) (Or.inl ⟨by kernel_rfl, ?_⟩) (by assumption) ?_; rotate_left; focus (intro V9 hS9; go_simp; (try (with_reducible rfl)); done))
        try simp only [Act.put, List.getElem_toArray, List.getElem_cons_succ, List.getElem_cons_zero, List.setIfInBounds_toArray, List.set_cons_succ, List.set_cons_zero]
        (refine wpAnyW_take (i := 7) (v := ?_) rfl (by kernel_rfl) (by kernel_rfl) (by kernel_rfl) (by kernel_rfl) (fun _ _ _ h => h) (Or.inl ⟨by kernel_rfl, ?_⟩) (by assumption) ?_; rotate_left; focus (intro V9 hS9; go_simp; (try (with_reducible rfl)); done))
        try simp only [Act.put, List.getElem_toArray, List.getElem_cons_succ, List.getElem_cons_zero, List.setIfInBounds_toArray, List.set_cons_succ, List.set_cons_zero]
        (refine wpAnyW_take (i := 9) (v := ?_) rfl (by kernel_rfl) (by kernel_rfl) (by kernel_rfl) (by kernel_rfl) (fun _ _ _ h => h) (Or.inl ⟨by kernel_rfl, ?_⟩) (by assumption) ?_; rotate_left; focus (intro V9 hS9; go_simp; (try (with_reducible rfl)); done))
        try simp only [Act.put, List.getElem_toArray, List.getElem_cons_succ, List.getElem_cons_zero, List.setIfInBounds_toArray, List.set_cons_succ, List.set_cons_zero]
        (refine wpAnyW_take (i := 10) (v := ?_) rfl (by kernel_rfl) (by kernel_rfl) (by kernel_rfl) (by kernel_rfl) (fun _ _ _ h => h) (Or.inl ⟨by kernel_rfl, ?_⟩) (by assumption) ?_; rotate_left; focus (intro V9 hS9; go_simp; (try (with_reducible rfl)); done))
        try simp only [Act.put, List.getElem_toArray, List.getElem_cons_succ, List.getElem_cons_zero, List.setIfInBounds_toArray, List.set_cons_succ, List.set_cons_zero]
        (refine wpAnyW_take (i := 11) (v := ?_) rfl (by kernel_rfl) (by kernel_rfl) (by kernel_rfl) (by kernel_rfl) (fun _ _ _ h => h) (Or.inl ⟨by kernel_rfl, ?_⟩) (by assumption) ?_; rotate_left; focus (intro V9 hS9; go_simp; (try (with_reducible rfl)); done))
        try simp only [Act.put, List.getElem_toArray, List.getElem_cons_succ, List.getElem_cons_zero, List.setIfInBounds_toArray, List.set_cons_succ, List.set_cons_zero]
        (refine wpAnyW_take (i := 12) (v := ?_) rfl (by kernel_rfl) (by kernel_rfl) (by kernel_rfl) (by kernel_rfl) (fun _ _ _ h => h) (Or.inl ⟨by kernel_rfl, ?_⟩) (by assumption) ?_; rotate_left; focus (intro V9 hS9; have g0 := HSC.out V9 hS9; go_simp; (try (with_reducible rfl)); done))
        try simp only [Act.put, List.getElem_toArray, List.getElem_cons_succ, List.getElem_cons_zero, List.setIfInBounds_toArray, List.set_cons_succ, List.set_cons_zero]
        (refine wpAnyW_take (i := 13) (v := ?_) rfl (by kernel_rfl) (by kernel_rfl) (by kernel_rfl) (by kernel_rfl) (fun _ _ _ h => h) (Or.inl ⟨by kernel_rfl, ?_⟩) (by assumption) ?_; rotate_left; focus (intro V9 hS9; go_simp; (try (with_reducible rfl)); done))
        try simp only [Act.put, List.getElem_toArray, List.getElem_cons_succ, List.getElem_cons_zero, List.setIfInBounds_toArray, List.set_cons_succ, List.set_cons_zero]
        (refine wpAnyW_take (i := 14) (v := ?_) rfl (by kernel_rfl) (by kernel_rfl) (by kernel_rfl) (by kernel_rfl) (fun _ _ _ h => h) (Or.inl ⟨by kernel_rfl, ?_⟩) (by assumption) ?_; rotate_left; focus (intro V9 hS9; go_simp; (try (with_reducible rfl)); done))
        try simp only [Act.put, List.getElem_toArray, List.getElem_cons_succ, List.getElem_cons_zero, List.setIfInBounds_toArray, List.set_cons_succ, List.set_cons_zero]
        (refine wpAnyW_take (i := 15) (v := ?_) rfl (by kernel_rfl) (by kernel_rfl) (by kernel_rfl) (by kernel_rfl) (fun _ _ _ h => h) (Or.inl ⟨by kernel_rfl, ?_⟩) (by assumption) ?_; rotate_left; focus (intro V9 hS9; go_simp; (try (with_reducible rfl)); done))
        try simp only [Act.put, List.getElem_toArray, List.getElem_cons_succ, List.getElem_cons_zero, List.setIfInBounds_toArray, List.set_cons_succ, List.set_cons_zero]
        refine wpAnyW_ready (rs := [1]) (by kernel_rfl) (by simp) ?_
        refine AllReadyW.cons rfl (fun K hK => ?_) AllReadyW.nil
        go_simp
        refine hK.out _ _ (below_step hS0 (below_alloc _ _)) (fun _ => ?_)
        clear hK K
        try simp only [Act.put, List.getElem_toArray, List.getElem_cons_succ, List.getElem_cons_zero, List.setIfInBounds_toArray, List.set_cons_succ, List.set_cons_zero]
        refine wpAnyW_world (fun V => Below V0.heap.size V0 V ∧ V.ownsRow V0.heap.size 52 2 (.slice (some ⟨V0.heap.size, 0, none⟩) 0 0) 0 []) ⟨below_step hS0 (below_alloc _ _), HO0.out⟩ ?_
        rintro VA ⟨hbA, hoA⟩
        refine wpAnyW_ready (rs := [8]) (by kernel_rfl) (by simp) ?_
        refine AllReadyW.cons rfl (fun K hK => ?_) AllReadyW.nil
        refine step_appO entRT (by kernel_rfl) (.tmp 26) (.tmp 32) rfl V0.heap.size 0 [] _ hoA (some ⟨g, 0, none⟩) i cap (entsC (L.take i)) (by rfl) (by rfl) HL2.out (HC2.out _ hbA) (entsC_one _) (by unfold maxLen; omega) (by omega) (Below.size hbA) ?_
        intro v1 VB hoB hgB _
        have hbB : Below V0.heap.size V0 VB := own_grow hoA hbA hgB (Below.size hbA)
        refine hK.out _ _ hbB (fun _ => ?_)
        clear hK K
        try simp only [Act.put, List.getElem_toArray, List.getElem_cons_succ, List.getElem_cons_zero, List.setIfInBounds_toArray, List.set_cons_succ, List.set_cons_zero]
        refine wpAnyW_ready (rs := [16]) (by kernel_rfl) (by simp) ?_
        refine AllReadyW.cons rfl (fun K hK => ?_) AllReadyW.nil
        refine step_appO entRT (by kernel_rfl) (.tmp 33) (.tmp 40) rfl V0.heap.size (0 + i) ([] ++ entsC (L.take i)) v1 hoB (some A3) (n - (i + 1)) (cap - (i + 1)) (entsC (L.drop (i + 1))) (by rfl) (by rfl) HL3.out (HC3.out _ hbB) (entsC_one _) (by unfold maxLen; omega) (by omega) (Below.size hbB) ?_
        intro v2 VD hoD hgD _
        have hbD : Below V0.heap.size V0 VD := own_grow hoB hbB hgD (Below.size hbB)
        refine hK.out _ _ hbD (fun _ => ?_)
        clear hK K
        try simp only [Act.put, List.getElem_toArray, List.getElem_cons_succ, List.getElem_cons_zero, List.setIfInBounds_toArray, List.set_cons_succ, List.set_cons_zero]
        rw [HMM.out, List.nil_append] at hoD
        obtain ⟨A2, c2, rfl⟩ := own_form2 hoD
        (refine wpAnyW_take (i := 17) (v := ?_) rfl (by kernel_rfl) (by kernel_rfl) (by kernel_rfl) (by kernel_rfl) (fun _ _ _ h => h) (Or.inl ⟨by kernel_rfl, ?_⟩) (by assumption) ?_; rotate_left; focus (intro V9 hS9; go_simp; (try (with_reducible rfl)); done))
        try simp only [Act.put, List.getElem_toArray, List.getElem_cons_succ, List.getElem_cons_zero, List.setIfInBounds_toArray, List.set_cons_succ, List.set_cons_zero]
        (refine wpAnyW_take (i := 18) (v := ?_) rfl (by kernel_rfl) (by kernel_rfl) (by kernel_rfl) (by kernel_rfl) (fun _ _ _ h => h) (Or.inl ⟨by kernel_rfl, ?_⟩) (by assumption) ?_; rotate_left; focus (intro V9 hS9; go_simp; (try (with_reducible rfl)); done))
        try simp only [Act.put, List.getElem_toArray, List.getElem_cons_succ, List.getElem_cons_zero, List.setIfInBounds_toArray, List.set_cons_succ, List.set_cons_zero]
        refine wpAnyW_ready (rs := [19]) (by kernel_rfl) (by simp) ?_
        refine AllReadyW.consE rfl (by kernel_rfl) (fun K hK => ?_) AllReadyW.nil
        have hfz := HPF.out VD hbD
        have gc := HSC.out VD hbD
        go_simp
        refine hK.out _ _ ?_
        clear hK K
        refine wpAnyW_done (by kernel_rfl) ?_ _
        have HF := Lib.hid (HFIN.out VD _ c2 hbD hoD)
        clear hoD hgD hoB hgB hoA hbA hbB hbD HFIN
        go_wp2
        go_ret
        exact HF.out
    · have hd8 : decide (i < n) = false := by simp; omega
      have HE := Lib.hid (show get1 L s = none by rw [HG.out, show i = n by omega, ← HN.out, List.drop_length]; rfl)
      go_wp2
      go_ret
      exact ⟨by unfold removeP; rw [HE.out]; rfl, A, cap, by unfold removeP; rw [del1_none HE.out]; exact HH.out, Fr.refl _ _⟩
end
end Go.Proofs.Ytfkolemkmhcbfaa
