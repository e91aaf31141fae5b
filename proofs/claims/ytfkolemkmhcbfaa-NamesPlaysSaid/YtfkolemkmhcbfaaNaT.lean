/- Names (layer 19): the document's names: Add, Drop. -/
import Derived.Test.YtfkolemkmhcbfaaNaS
import Derived.Test.YtfkolemkmhcbfaaNOnceW
namespace Go.Proofs.Ytfkolemkmhcbfaa
open Go.RowKit
set_option linter.unusedVariables false

theorem ins1_skip {L : NL} {x : List UInt8 × Int} {k : Nat} (hk : k < L.length) (h : L[k].1 < x.1) (ha : ins1 x L = L.take k ++ ins1 x (L.drop k)) : ins1 x L = L.take (k + 1) ++ ins1 x (L.drop (k + 1)) := by
  rw [ha, List.drop_eq_getElem_cons hk]
  conv => lhs; unfold ins1
  have h1 : bytesBefore x.1 L[k].1 = false := by
    cases hq : bytesBefore x.1 L[k].1 with
    | false => rfl
    | true => exact absurd (List.lt_trans h ((before_iff _ _).1 hq)) (List.lt_irrefl _)
  rw [h1]
  simp only [Bool.false_eq_true, if_false]
  rw [List.take_succ_eq_append_getElem hk, List.append_assoc]
  rfl
theorem ins1_stop {L : NL} {x : List UInt8 × Int} {k : Nat} (hk : k < L.length) (h : ¬ L[k].1 < x.1) (hne : L[k].1 ≠ x.1) (ha : ins1 x L = L.take k ++ ins1 x (L.drop k)) : ins1 x L = L.take k ++ [x] ++ L.drop k := by
  rw [ha, List.drop_eq_getElem_cons hk]
  conv => lhs; unfold ins1
  rw [(before_iff _ _).2 (bytes_total h hne)]
  simp
theorem ins1_end {L : NL} {x : List UInt8 × Int} {k : Nat} (hk : L.length ≤ k) (ha : ins1 x L = L.take k ++ ins1 x (L.drop k)) : ins1 x L = L.take k ++ [x] ++ L.drop k := by
  rw [ha, List.drop_eq_nil_of_le hk]
  simp [ins1]

section
variable {W W' : World} {B pr : Nat} {A : Option Addr} {cap : Nat} {L : NL}
set_option maxRecDepth 100000 in
set_option maxHeartbeats 2000000 in
theorem rdrop_any (h : RNm W B pr A cap L) (hB : B ≤ W.heap.size) (p : Int) {K : List (Int × List UInt8)} (hok : NOk L K) (hl : L.length ≤ 1000000) :
    Calls Try.prog 16 #[.pointer (some ⟨pr, 0, none⟩), .int .i64 p] W (REnd B pr W (.bool (dropP L p).1) (dropP L p).2) := by
  have HF := Lib.hid (rof_any h p hl)
  cases h1 : of1 L p with
  | none =>
    have hE : dropP L p = (false, L) := by unfold dropP; rw [h1]
    rw [hE]
    rw [h1] at HF
    simp only [Option.getD_none, Option.isSome_none] at HF
    have HH := Lib.hid h
    clear h hE h1 hok
    go_enter Try.func16, Try.ntmps16
    go_wp2_with (go_at_call 20; refine HF.out.mono ?_; rintro e w' ⟨rfl, rfl⟩)
    go_ret
    exact ⟨rfl, A, cap, HH.out, Fr.refl _ _⟩
  | some s =>
    have hmem := of1_mem h1
    have hg := hok.get1_iff.2 hmem
    have hE : dropP L p = (true, del1 L s) := by unfold dropP; rw [h1]
    have hE2 : removeP L s = (true, del1 L s) := by unfold removeP; rw [hg]; rfl
    have HR := Lib.hid (rremove_any h hB s hok.apart hl)
    rw [hE]
    rw [hE2] at HR
    rw [h1] at HF
    simp only [Option.getD_some, Option.isSome_some] at HF
    clear h hE h1 hE2 hok hmem hg
    go_enter Try.func16, Try.ntmps16
    go_wp2_with (first
      | (go_at_call 20; refine HF.out.mono ?_; rintro e w' ⟨rfl, rfl⟩)
      | (go_at_call 14; refine HR.out.mono ?_; rintro e w' ⟨rfl, hR⟩))
    go_ret
    exact ⟨rfl, hR⟩

/-- What the insert needs to know: the slice's two parts, and what the store leaves. -/
structure InsK (B pr : Nat) (A : Option Addr) (cap n k : Nat) (L : NL) (s : List UInt8) (p : Int) (A3 : Option Addr) (V0 : World) : Prop where
  sc : ∀ V, Below V0.heap.size V0 V → V.cell? ⟨pr, 0, none⟩ = some (.slice A n cap)
  pf : ∀ V, Below V0.heap.size V0 V → V.frozen? ⟨pr, 0, none⟩ = false
  c2 : ∀ V, Below V0.heap.size V0 V → Cs V A (entsC (L.take k))
  c3 : ∀ V, Below V0.heap.size V0 V → Cs V A3 (entsC (L.drop k))
  l2 : (entsC (L.take k)).length = k * 2
  l3 : (entsC (L.drop k)).length = (n - k) * 2
  mm : 0 + k + 1 + (n - k) = n + 1
  fin : ∀ V A2 c2, Below V0.heap.size V0 V → V.ownsRow V0.heap.size 52 2 (.slice A2 (n + 1) c2) (n + 1) (entsC (L.take k) ++ entC (s, p) ++ entsC (L.drop k)) → ∃ A' cap', RNm (V.setCell ⟨pr, 0, none⟩ (.slice A2 (n + 1) c2)) B pr A' cap' (ins1 (s, p) L) ∧ Fr (fun k => k = pr) V0 (V.setCell ⟨pr, 0, none⟩ (.slice A2 (n + 1) c2))
theorem insK {n k : Nat} {s : List UInt8} {p : Int} {A3 : Option Addr} {V0 : World} (h : RNm V0 B pr A cap L) (hB : B ≤ V0.heap.size) (hn : L.length = n) (hk : k ≤ n) (hi : ins1 (s, p) L = L.take k ++ [(s, p)] ++ L.drop k)
    (h2 : ∀ V, Below V0.heap.size V0 V → Cs V A (entsC (L.take k))) (h3 : ∀ V, Below V0.heap.size V0 V → Cs V A3 (entsC (L.drop k))) : InsK B pr A cap n k L s p A3 V0 := by
  have hplt := h.obj.lt
  refine ⟨fun V hV => by rw [← hn]; exact (h.keep hV).obj.cell 0, fun V hV => (h.keep hV).obj.frozen 0, h2, h3, by rw [entsC_len, List.length_take]; omega, by rw [entsC_len, List.length_drop, hn], by omega, fun V A2 c2 hb ho => ?_⟩
  have hne : ∀ g, (Value.slice A2 (n + 1) c2).ownBlock = some g → V0.heap.size ≤ g := fun g hg => (World.ownsRow.lt ho g hg).1
  have hL : (ins1 (s, p) L).length = n + 1 := by rw [len_ins1, hn]
  have hC : entsC (ins1 (s, p) L) = entsC (L.take k) ++ entC (s, p) ++ entsC (L.drop k) := by rw [hi, entsC_append, entsC_append]; simp [entsC]
  refine ⟨A2, c2, ⟨?_, ?_, ?_⟩, (Fr.of_below hb _).same (Fr.setCell (fun k => k = pr) _ (p := ⟨pr, 0, none⟩) (fun _ => rfl) _)⟩
  · rw [hL]; exact (h.obj.keep hb).set_ 0 _
  · rw [hL, hC]
    refine (own_lower ho hB).kept (grown_setCell (grown_refl _ (some pr)) (p := ⟨pr, 0, none⟩) (.inl rfl) _) ?_
    cases hq9 : (Value.slice A2 (n + 1) c2).ownBlock with
    | none => exact .inl rfl
    | some g9 => exact .inr (fun e9 => by have := hne g9 hq9; injection e9 with e9; omega)
  · rw [hL]
    intro g9 hg9
    have := hne g9 hg9
    omega

set_option maxRecDepth 100000 in
set_option maxHeartbeats 8000000 in
theorem radd_any (h : RNm W B pr A cap L) (hB : B ≤ W.heap.size) (s : List UInt8) (p : Int) (hs : s.length ≤ maxLen) (hl : L.length ≤ 1000000) :
    Calls Try.prog 9 #[.pointer (some ⟨pr, 0, none⟩), .string ⟨s.toArray⟩, .int .i64 p] W (REnd B pr W (.int .i64 ((addP L s p).1 : Int)) (addP L s p).2) := by
  have HF := Lib.hid (rfind_any h s hl)
  have HO := Lib.hid (rof_any h p hl)
  have c0 := h.obj.cell 0
  by_cases hsn : s = []
  · have hE : addP L s p = (2, L) := by unfold addP; rw [if_pos (.inl hsn)]
    rw [hE]
    subst hsn
    have HH := Lib.hid h
    clear h hE
    go_enter Try.func9, Try.ntmps9
    go_wp2
    go_ret
    exact ⟨rfl, A, cap, HH.out, Fr.refl _ _⟩
  · have hs1 : 0 < s.length := List.length_pos_iff.2 hsn
    have d0 : decide ((s.length : Int) < 1) = false := by simp; omega
    have d0' : decide (s.length < 1) = false := by simp; omega
    have d0'' : (s.length == 0) = false := by simp; omega
    have d0e : s.isEmpty = false := by simp [hsn]
    by_cases hsl : 255 < s.length
    · have hE : addP L s p = (2, L) := by unfold addP; rw [if_pos (.inr hsl)]
      rw [hE]
      have HH := Lib.hid h
      clear h hE
      have d1 : decide ((255 : Int) < (s.length : Int)) = true := by simp; omega
      go_enter Try.func9, Try.ntmps9
      go_wp2
      go_ret
      exact ⟨rfl, A, cap, HH.out, Fr.refl _ _⟩
    · have d1 : decide ((255 : Int) < (s.length : Int)) = false := by simp; omega
      cases h1 : get1 L s with
      | some p0 =>
        have hE : addP L s p = (8, L) := by unfold addP; rw [if_neg (by simp [hsn]; omega), if_pos (.inl (by rw [h1]; rfl))]
        rw [hE]
        rw [h1] at HF
        have HH := Lib.hid h
        clear h hE h1
        simp only [Option.getD_some, Option.isSome_some] at HF
        go_enter Try.func9, Try.ntmps9
        go_wp2_with (first
          | (go_at_call 18; refine HF.out.mono ?_; rintro e w' ⟨rfl, rfl⟩)
          | (go_at_call 20; refine HO.out.mono ?_; rintro e w' ⟨rfl, rfl⟩))
        go_ret
        exact ⟨rfl, A, cap, HH.out, Fr.refl _ _⟩
      | none =>
        cases h2 : of1 L p with
        | some s0 =>
          have hE : addP L s p = (8, L) := by unfold addP; rw [if_neg (by simp [hsn]; omega), if_pos (.inr (by rw [h2]; rfl))]
          rw [hE]
          rw [h1] at HF
          rw [h2] at HO
          have HH := Lib.hid h
          clear h hE h1 h2
          simp only [Option.getD_none, Option.isSome_none, Option.getD_some, Option.isSome_some] at HF HO
          go_enter Try.func9, Try.ntmps9
          go_wp2_with (first
            | (go_at_call 18; refine HF.out.mono ?_; rintro e w' ⟨rfl, rfl⟩)
            | (go_at_call 20; refine HO.out.mono ?_; rintro e w' ⟨rfl, rfl⟩))
          go_ret
          exact ⟨rfl, A, cap, HH.out, Fr.refl _ _⟩
        | none =>
          have hE : addP L s p = (0, ins1 (s, p) L) := by unfold addP; rw [if_neg (by simp [hsn]; omega), if_neg (by rw [h1, h2]; simp)]
          rw [hE]
          rw [h1] at HF
          rw [h2] at HO
          have H1 := Lib.hid h1
          have HH := Lib.hid h
          clear hE h1 h2
          simp only [Option.getD_none, Option.isSome_none] at HF HO
          by_cases hAn : A = none
          · as_aux_lemma =>
              subst hAn
              have hn0 : L.length = 0 ∧ cap = 0 := by
                rcases h.row.2 with ⟨hv, hz⟩ | ⟨g, cap', cur, hv, _⟩
                · exact ⟨(Value.slice.inj hv).2.1, (Value.slice.inj hv).2.2⟩
                · have := (Value.slice.inj hv).1
                  cases this
              obtain ⟨hn0, rfl⟩ := hn0
              have hL0 : L = [] := List.eq_nil_of_length_eq_zero hn0
              subst hL0
              have HI := Lib.hid (insK (n := 0) (k := 0) (A3 := none) (s := s) (p := p) h hB rfl (Nat.le_refl _) rfl (fun V hV => .inl rfl) (fun V hV => .inl rfl))
              obtain ⟨V0, hV0⟩ : ∃ V0, V0 = W := ⟨_, rfl⟩
              rw [← hV0] at HI HF HO c0 ⊢
              clear h hV0 H1
              go_enter Try.func9, Try.ntmps9
              go_upto_region 8 with (first
                | (go_at_call 18; refine HF.out.mono ?_; rintro e w' ⟨rfl, rfl⟩)
                | (go_at_call 20; refine HO.out.mono ?_; rintro e w' ⟨rfl, rfl⟩))
              go_loop [11] (fun v => v = .int .i64 0) (fun _ => 0)
              case atStart => exact rfl
              case round =>
                subst hrel
                go_upto_region 10 with (fail)
                refine wp_region_W 23 (fun V => Below V0.heap.size V0 V) (by kernel_rfl) ?_ (fun hS0 => ?_)
                · exact (Below.refl _ _).drew
                (refine wpAnyW_take (i := 0) (v := ?_) rfl (by kernel_rfl) (by kernel_rfl) (by kernel_rfl) (by kernel_rfl) (fun _ _ _ h => h) (Or.inl ⟨by kernel_rfl, ?_⟩) (by assumption) ?_; rotate_left; focus (intro V9 hS9; go_simp; (try (with_reducible rfl)); done))
                try simp only [Act.put, List.getElem_toArray, List.getElem_cons_zero, List.setIfInBounds_toArray, List.set_cons_succ, List.set_cons_zero]
                (refine wpAnyW_take (i := 2) (v := ?_) rfl (by kernel_rfl) (by kernel_rfl) (by kernel_rfl) (by kernel_rfl) (fun _ _ _ h => h) (Or.inl ⟨by kernel_rfl, ?_⟩) (by assumption) ?_; rotate_left; focus (intro V9 hS9; go_simp; (try (with_reducible rfl)); done))
                try simp only [Act.put, List.getElem_toArray, List.getElem_cons_succ, List.getElem_cons_zero, List.setIfInBounds_toArray, List.set_cons_succ, List.set_cons_zero]
                (refine wpAnyW_take (i := 3) (v := ?_) rfl (by kernel_rfl) (by kernel_rfl) (by kernel_rfl) (by kernel_rfl) (fun _ _ _ h => h) (Or.inl ⟨by kernel_rfl, ?_⟩) (by assumption) ?_; rotate_left; focus (intro V9 hS9; go_simp; (try (with_reducible rfl)); done))
                try simp only [Act.put, List.getElem_toArray, List.getElem_cons_succ, List.getElem_cons_zero, List.setIfInBounds_toArray, List.set_cons_succ, List.set_cons_zero]
                (refine wpAnyW_take (i := 4) (v := ?_) rfl (by kernel_rfl) (by kernel_rfl) (by kernel_rfl) (by kernel_rfl) (fun _ _ _ h => h) (Or.inl ⟨by kernel_rfl, ?_⟩) (by assumption) ?_; rotate_left; focus (intro V9 hS9; go_simp; (try (with_reducible rfl)); done))
                try simp only [Act.put, List.getElem_toArray, List.getElem_cons_succ, List.getElem_cons_zero, List.setIfInBounds_toArray, List.set_cons_succ, List.set_cons_zero]
                (refine wpAnyW_take (i := 5) (v := ?_) rfl (by kernel_rfl) (by kernel_rfl) (by kernel_rfl) (by kernel_rfl) (fun _ _ _ h => h) (Or.inl ⟨by kernel_rfl, ?_⟩) (by assumption) ?_; rotate_left; focus (intro V9 hS9; have g0 := HI.out.sc V9 hS9; go_simp; (try (with_reducible rfl)); done))
                try simp only [Act.put, List.getElem_toArray, List.getElem_cons_succ, List.getElem_cons_zero, List.setIfInBounds_toArray, List.set_cons_succ, List.set_cons_zero]
                (refine wpAnyW_take (i := 6) (v := ?_) rfl (by kernel_rfl) (by kernel_rfl) (by kernel_rfl) (by kernel_rfl) (fun _ _ _ h => h) (Or.inl ⟨by kernel_rfl, ?_⟩) (by assumption) ?_; rotate_left; focus (intro V9 hS9; go_simp; (try (with_reducible rfl)); done))
                try simp only [Act.put, List.getElem_toArray, List.getElem_cons_succ, List.getElem_cons_zero, List.setIfInBounds_toArray, List.set_cons_succ, List.set_cons_zero]
                (refine wpAnyW_take (i := 7) (v := ?_) rfl (by kernel_rfl) (by kernel_rfl) (by kernel_rfl) (by kernel_rfl) (fun _ _ _ h => h) (Or.inl ⟨by kernel_rfl, ?_⟩) (by assumption) ?_; rotate_left; focus (intro V9 hS9; go_simp; (try (with_reducible rfl)); done))
                try simp only [Act.put, List.getElem_toArray, List.getElem_cons_succ, List.getElem_cons_zero, List.setIfInBounds_toArray, List.set_cons_succ, List.set_cons_zero]
                (refine wpAnyW_take (i := 9) (v := ?_) rfl (by kernel_rfl) (by kernel_rfl) (by kernel_rfl) (by kernel_rfl) (fun _ _ _ h => h) (Or.inl ⟨by kernel_rfl, ?_⟩) (by assumption) ?_; rotate_left; focus (intro V9 hS9; go_simp; (try (with_reducible rfl)); done))
                try simp only [Act.put, List.getElem_toArray, List.getElem_cons_succ, List.getElem_cons_zero, List.setIfInBounds_toArray, List.set_cons_succ, List.set_cons_zero]
                (refine wpAnyW_take (i := 10) (v := ?_) rfl (by kernel_rfl) (by kernel_rfl) (by kernel_rfl) (by kernel_rfl) (fun _ _ _ h => h) (Or.inl ⟨by kernel_rfl, ?_⟩) (by assumption) ?_; rotate_left; focus (intro V9 hS9; go_simp; (try (with_reducible rfl)); done))
                try simp only [Act.put, List.getElem_toArray, List.getElem_cons_succ, List.getElem_cons_zero, List.setIfInBounds_toArray, List.set_cons_succ, List.set_cons_zero]
                (refine wpAnyW_take (i := 11) (v := ?_) rfl (by kernel_rfl) (by kernel_rfl) (by kernel_rfl) (by kernel_rfl) (fun _ _ _ h => h) (Or.inl ⟨by kernel_rfl, ?_⟩) (by assumption) ?_; rotate_left; focus (intro V9 hS9; go_simp; (try (with_reducible rfl)); done))
                try simp only [Act.put, List.getElem_toArray, List.getElem_cons_succ, List.getElem_cons_zero, List.setIfInBounds_toArray, List.set_cons_succ, List.set_cons_zero]
                (refine wpAnyW_take (i := 14) (v := ?_) rfl (by kernel_rfl) (by kernel_rfl) (by kernel_rfl) (by kernel_rfl) (fun _ _ _ h => h) (Or.inl ⟨by kernel_rfl, ?_⟩) (by assumption) ?_; rotate_left; focus (intro V9 hS9; go_simp; (try (with_reducible rfl)); done))
                try simp only [Act.put, List.getElem_toArray, List.getElem_cons_succ, List.getElem_cons_zero, List.setIfInBounds_toArray, List.set_cons_succ, List.set_cons_zero]
                (refine wpAnyW_take (i := 15) (v := ?_) rfl (by kernel_rfl) (by kernel_rfl) (by kernel_rfl) (by kernel_rfl) (fun _ _ _ h => h) (Or.inl ⟨by kernel_rfl, ?_⟩) (by assumption) ?_; rotate_left; focus (intro V9 hS9; go_simp; (try (with_reducible rfl)); done))
                try simp only [Act.put, List.getElem_toArray, List.getElem_cons_succ, List.getElem_cons_zero, List.setIfInBounds_toArray, List.set_cons_succ, List.set_cons_zero]
                (refine wpAnyW_take (i := 16) (v := ?_) rfl (by kernel_rfl) (by kernel_rfl) (by kernel_rfl) (by kernel_rfl) (fun _ _ _ h => h) (Or.inl ⟨by kernel_rfl, ?_⟩) (by assumption) ?_; rotate_left; focus (intro V9 hS9; go_simp; (try (with_reducible rfl)); done))
                try simp only [Act.put, List.getElem_toArray, List.getElem_cons_succ, List.getElem_cons_zero, List.setIfInBounds_toArray, List.set_cons_succ, List.set_cons_zero]
                (refine wpAnyW_take (i := 17) (v := ?_) rfl (by kernel_rfl) (by kernel_rfl) (by kernel_rfl) (by kernel_rfl) (fun _ _ _ h => h) (Or.inl ⟨by kernel_rfl, ?_⟩) (by assumption) ?_; rotate_left; focus (intro V9 hS9; have g0 := HI.out.sc V9 hS9; go_simp; (try (with_reducible rfl)); done))
                try simp only [Act.put, List.getElem_toArray, List.getElem_cons_succ, List.getElem_cons_zero, List.setIfInBounds_toArray, List.set_cons_succ, List.set_cons_zero]
                (refine wpAnyW_take (i := 18) (v := ?_) rfl (by kernel_rfl) (by kernel_rfl) (by kernel_rfl) (by kernel_rfl) (fun _ _ _ h => h) (Or.inl ⟨by kernel_rfl, ?_⟩) (by assumption) ?_; rotate_left; focus (intro V9 hS9; go_simp; (try (with_reducible rfl)); done))
                try simp only [Act.put, List.getElem_toArray, List.getElem_cons_succ, List.getElem_cons_zero, List.setIfInBounds_toArray, List.set_cons_succ, List.set_cons_zero]
                (refine wpAnyW_take (i := 19) (v := ?_) rfl (by kernel_rfl) (by kernel_rfl) (by kernel_rfl) (by kernel_rfl) (fun _ _ _ h => h) (Or.inl ⟨by kernel_rfl, ?_⟩) (by assumption) ?_; rotate_left; focus (intro V9 hS9; go_simp; (try (with_reducible rfl)); done))
                try simp only [Act.put, List.getElem_toArray, List.getElem_cons_succ, List.getElem_cons_zero, List.setIfInBounds_toArray, List.set_cons_succ, List.set_cons_zero]
                refine wpAnyW_ready (rs := [1, 12]) (by kernel_rfl) (by simp) ?_
                refine AllReadyW.cons rfl (fun K hK => ?_) (AllReadyW.cons rfl (fun K hK => ?_) AllReadyW.nil)
                · skip
                  go_simp
                  refine hK.out _ _ (below_step hS0 (below_alloc _ _)) (fun _ => ?_)
                  clear hK K
                  try simp only [Act.put, List.getElem_toArray, List.getElem_cons_succ, List.getElem_cons_zero, List.setIfInBounds_toArray, List.set_cons_succ, List.set_cons_zero]
                  refine wpAnyW_world (fun V => Below V0.heap.size V0 V ∧ V.ownsRow V0.heap.size 52 2 (.slice (some ⟨V0.drew.heap.size, 0, none⟩) 0 0) 0 []) ⟨below_step hS0 (below_alloc _ _), own_made (W := V0.drew) V0.heap.size 52 2 (Below.size hS0)⟩ ?_
                  rintro VA ⟨hbA, hoA⟩
                  refine wpAnyW_ready (rs := [8, 12]) (by kernel_rfl) (by simp) ?_
                  refine AllReadyW.cons rfl (fun K hK => ?_) (AllReadyW.cons rfl (fun K hK => ?_) AllReadyW.nil)
                  · skip
                    refine step_appO entRT (by kernel_rfl) (.tmp 58) (.tmp 64) rfl V0.heap.size 0 [] _ hoA none 0 0 (entsC (([] : NL).take 0)) (by rfl) (by rfl) HI.out.l2 (HI.out.c2 _ hbA) (entsC_one _) (by unfold maxLen; omega) (by omega) (Below.size hbA) ?_
                    intro v1 VB ho8 hg8 _
                    have hbB : Below V0.heap.size V0 VB := own_grow hoA hbA hg8 (Below.size hbA)
                    refine hK.out _ _ hbB (fun _ => ?_)
                    clear hK K
                    try simp only [Act.put, List.getElem_toArray, List.getElem_cons_succ, List.getElem_cons_zero, List.setIfInBounds_toArray, List.set_cons_succ, List.set_cons_zero]
                    refine wpAnyW_ready (rs := [12]) (by kernel_rfl) (by simp) ?_
                    refine AllReadyW.cons rfl (fun K hK => ?_) AllReadyW.nil
                    go_simp
                    refine hK.out _ _ (below_step hbB (below_alloc _ _)) (fun _ => ?_)
                    clear hK K
                    try simp only [Act.put, List.getElem_toArray, List.getElem_cons_succ, List.getElem_cons_zero, List.setIfInBounds_toArray, List.set_cons_succ, List.set_cons_zero]
                    refine wpAnyW_world (fun V => Below V0.heap.size V0 V ∧ V.ownsRow V0.heap.size 52 2 v1 (0 + 0) ([] ++ entsC (([] : NL).take 0)) ∧ Blk V VB.heap.size 52 #[.string ⟨s.toArray⟩, .int .i64 p]) ⟨below_step hbB (below_alloc _ _), ho8.alloc _, Blk.new _ _ _⟩ ?_
                    rintro VC ⟨hbC, hoC, hkC⟩
                    refine wpAnyW_ready (rs := [13]) (by kernel_rfl) (by simp) ?_
                    refine AllReadyW.cons rfl (fun K hK => ?_) AllReadyW.nil
                    refine step_appO entRT (by kernel_rfl) (.tmp 65) (.tmp 69) rfl V0.heap.size (0 + 0) ([] ++ entsC (([] : NL).take 0)) v1 hoC _ 1 1 (entC (s, p)) (by rfl) (by rfl) rfl (cs_one2 hkC) (entC_one _) (by unfold maxLen; omega) (by omega) (Below.size hbC) ?_
                    intro v2 VD ho13 hg13 _
                    have hbD : Below V0.heap.size V0 VD := own_grow hoC hbC hg13 (Below.size hbC)
                    refine hK.out _ _ hbD (fun _ => ?_)
                    clear hK K
                    try simp only [Act.put, List.getElem_toArray, List.getElem_cons_succ, List.getElem_cons_zero, List.setIfInBounds_toArray, List.set_cons_succ, List.set_cons_zero]
                    refine wpAnyW_ready (rs := [20]) (by kernel_rfl) (by simp) ?_
                    refine AllReadyW.cons rfl (fun K hK => ?_) AllReadyW.nil
                    refine step_appO entRT (by kernel_rfl) (.tmp 70) (.tmp 76) rfl V0.heap.size (0 + 0 + 1) ([] ++ entsC (([] : NL).take 0) ++ entC (s, p)) v2 ho13 none (0 - 0) 0 (entsC (([] : NL).drop 0)) (by rfl) (by rfl) HI.out.l3 (HI.out.c3 _ hbD) (entsC_one _) (by unfold maxLen; omega) (by omega) (Below.size hbD) ?_
                    intro v3 VE ho20 hg20 _
                    have hbE : Below V0.heap.size V0 VE := own_grow ho13 hbD hg20 (Below.size hbD)
                    refine hK.out _ _ hbE (fun _ => ?_)
                    clear hK K
                    try simp only [Act.put, List.getElem_toArray, List.getElem_cons_succ, List.getElem_cons_zero, List.setIfInBounds_toArray, List.set_cons_succ, List.set_cons_zero]
                    rw [HI.out.mm, List.nil_append] at ho20
                    obtain ⟨A2, c2, rfl⟩ := own_form2 ho20
                    (refine wpAnyW_take (i := 21) (v := ?_) rfl (by kernel_rfl) (by kernel_rfl) (by kernel_rfl) (by kernel_rfl) (fun _ _ _ h => h) (Or.inl ⟨by kernel_rfl, ?_⟩) (by assumption) ?_; rotate_left; focus (intro V9 hS9; go_simp; (try (with_reducible rfl)); done))
                    try simp only [Act.put, List.getElem_toArray, List.getElem_cons_succ, List.getElem_cons_zero, List.setIfInBounds_toArray, List.set_cons_succ, List.set_cons_zero]
                    (refine wpAnyW_take (i := 22) (v := ?_) rfl (by kernel_rfl) (by kernel_rfl) (by kernel_rfl) (by kernel_rfl) (fun _ _ _ h => h) (Or.inl ⟨by kernel_rfl, ?_⟩) (by assumption) ?_; rotate_left; focus (intro V9 hS9; go_simp; (try (with_reducible rfl)); done))
                    try simp only [Act.put, List.getElem_toArray, List.getElem_cons_succ, List.getElem_cons_zero, List.setIfInBounds_toArray, List.set_cons_succ, List.set_cons_zero]
                    refine wpAnyW_ready (rs := [23]) (by kernel_rfl) (by simp) ?_
                    refine AllReadyW.consE rfl (by kernel_rfl) (fun K hK => ?_) AllReadyW.nil
                    have hfz := HI.out.pf VE hbE
                    have gc := HI.out.sc VE hbE
                    go_simp
                    refine hK.out _ _ ?_
                    clear hK K
                    refine wpAnyW_done (by kernel_rfl) ?_ _
                    have HF := Lib.hid (HI.out.fin VE _ c2 hbE ho20)
                    go_wp2
                    go_ret
                    exact ⟨rfl, HF.out⟩
                  · skip
                    go_simp
                    refine hK.out _ _ (below_step hbA (below_alloc _ _)) (fun _ => ?_)
                    clear hK K
                    try simp only [Act.put, List.getElem_toArray, List.getElem_cons_succ, List.getElem_cons_zero, List.setIfInBounds_toArray, List.set_cons_succ, List.set_cons_zero]
                    refine wpAnyW_world (fun V => Below V0.heap.size V0 V ∧ V.ownsRow V0.heap.size 52 2 (.slice (some ⟨V0.heap.size, 0, none⟩) 0 0) 0 [] ∧ Blk V VA.heap.size 52 #[.string ⟨s.toArray⟩, .int .i64 p] ∧ V0.heap.size < VA.heap.size) ⟨below_step hbA (below_alloc _ _), hoA.alloc _, Blk.new _ _ _, (World.ownsRow.lt hoA _ rfl).2⟩ ?_
                    rintro VB ⟨hbB, hoB, hkB, hlt9⟩
                    refine wpAnyW_ready (rs := [8]) (by kernel_rfl) (by simp) ?_
                    refine AllReadyW.cons rfl (fun K hK => ?_) AllReadyW.nil
                    refine step_appO entRT (by kernel_rfl) (.tmp 58) (.tmp 64) rfl V0.heap.size 0 [] _ hoB none 0 0 (entsC (([] : NL).take 0)) (by rfl) (by rfl) HI.out.l2 (HI.out.c2 _ hbB) (entsC_one _) (by unfold maxLen; omega) (by omega) (Below.size hbB) ?_
                    intro v1 VC ho8 hg8 _
                    have hbC : Below V0.heap.size V0 VC := own_grow hoB hbB hg8 (Below.size hbB)
                    refine hK.out _ _ hbC (fun _ => ?_)
                    clear hK K
                    try simp only [Act.put, List.getElem_toArray, List.getElem_cons_succ, List.getElem_cons_zero, List.setIfInBounds_toArray, List.set_cons_succ, List.set_cons_zero]
                    have hkC := hkB.grown hg8 (by simp [Value.ownBlock]; omega)
                    refine wpAnyW_ready (rs := [13]) (by kernel_rfl) (by simp) ?_
                    refine AllReadyW.cons rfl (fun K hK => ?_) AllReadyW.nil
                    refine step_appO entRT (by kernel_rfl) (.tmp 65) (.tmp 69) rfl V0.heap.size (0 + 0) ([] ++ entsC (([] : NL).take 0)) v1 ho8 _ 1 1 (entC (s, p)) (by rfl) (by rfl) rfl (cs_one2 hkC) (entC_one _) (by unfold maxLen; omega) (by omega) (Below.size hbC) ?_
                    intro v2 VD ho13 hg13 _
                    have hbD : Below V0.heap.size V0 VD := own_grow ho8 hbC hg13 (Below.size hbC)
                    refine hK.out _ _ hbD (fun _ => ?_)
                    clear hK K
                    try simp only [Act.put, List.getElem_toArray, List.getElem_cons_succ, List.getElem_cons_zero, List.setIfInBounds_toArray, List.set_cons_succ, List.set_cons_zero]
                    refine wpAnyW_ready (rs := [20]) (by kernel_rfl) (by simp) ?_
                    refine AllReadyW.cons rfl (fun K hK => ?_) AllReadyW.nil
                    refine step_appO entRT (by kernel_rfl) (.tmp 70) (.tmp 76) rfl V0.heap.size (0 + 0 + 1) ([] ++ entsC (([] : NL).take 0) ++ entC (s, p)) v2 ho13 none (0 - 0) 0 (entsC (([] : NL).drop 0)) (by rfl) (by rfl) HI.out.l3 (HI.out.c3 _ hbD) (entsC_one _) (by unfold maxLen; omega) (by omega) (Below.size hbD) ?_
                    intro v3 VE ho20 hg20 _
                    have hbE : Below V0.heap.size V0 VE := own_grow ho13 hbD hg20 (Below.size hbD)
                    refine hK.out _ _ hbE (fun _ => ?_)
                    clear hK K
                    try simp only [Act.put, List.getElem_toArray, List.getElem_cons_succ, List.getElem_cons_zero, List.setIfInBounds_toArray, List.set_cons_succ, List.set_cons_zero]
                    rw [HI.out.mm, List.nil_append] at ho20
                    obtain ⟨A2, c2, rfl⟩ := own_form2 ho20
                    (refine wpAnyW_take (i := 21) (v := ?_) rfl (by kernel_rfl) (by kernel_rfl) (by kernel_rfl) (by kernel_rfl) (fun _ _ _ h => h) (Or.inl ⟨by kernel_rfl, ?_⟩) (by assumption) ?_; rotate_left; focus (intro V9 hS9; go_simp; (try (with_reducible rfl)); done))
                    try simp only [Act.put, List.getElem_toArray, List.getElem_cons_succ, List.getElem_cons_zero, List.setIfInBounds_toArray, List.set_cons_succ, List.set_cons_zero]
                    (refine wpAnyW_take (i := 22) (v := ?_) rfl (by kernel_rfl) (by kernel_rfl) (by kernel_rfl) (by kernel_rfl) (fun _ _ _ h => h) (Or.inl ⟨by kernel_rfl, ?_⟩) (by assumption) ?_; rotate_left; focus (intro V9 hS9; go_simp; (try (with_reducible rfl)); done))
                    try simp only [Act.put, List.getElem_toArray, List.getElem_cons_succ, List.getElem_cons_zero, List.setIfInBounds_toArray, List.set_cons_succ, List.set_cons_zero]
                    refine wpAnyW_ready (rs := [23]) (by kernel_rfl) (by simp) ?_
                    refine AllReadyW.consE rfl (by kernel_rfl) (fun K hK => ?_) AllReadyW.nil
                    have hfz := HI.out.pf VE hbE
                    have gc := HI.out.sc VE hbE
                    go_simp
                    refine hK.out _ _ ?_
                    clear hK K
                    refine wpAnyW_done (by kernel_rfl) ?_ _
                    have HF := Lib.hid (HI.out.fin VE _ c2 hbE ho20)
                    go_wp2
                    go_ret
                    exact ⟨rfl, HF.out⟩
                · skip
                  go_simp
                  refine hK.out _ _ (below_step hS0 (below_alloc _ _)) (fun _ => ?_)
                  clear hK K
                  try simp only [Act.put, List.getElem_toArray, List.getElem_cons_succ, List.getElem_cons_zero, List.setIfInBounds_toArray, List.set_cons_succ, List.set_cons_zero]
                  refine wpAnyW_world (fun V => Below V0.heap.size V0 V ∧ Blk V V0.heap.size 52 #[.string ⟨s.toArray⟩, .int .i64 p] ∧ V0.heap.size < V.heap.size) ⟨below_step hS0 (below_alloc _ _), Blk.new V0.drew _ _, by simp⟩ ?_
                  rintro VA ⟨hbA, hkA, hsA⟩
                  refine wpAnyW_ready (rs := [1]) (by kernel_rfl) (by simp) ?_
                  refine AllReadyW.cons rfl (fun K hK => ?_) AllReadyW.nil
                  go_simp
                  refine hK.out _ _ (below_step hbA (below_alloc _ _)) (fun _ => ?_)
                  clear hK K
                  try simp only [Act.put, List.getElem_toArray, List.getElem_cons_succ, List.getElem_cons_zero, List.setIfInBounds_toArray, List.set_cons_succ, List.set_cons_zero]
                  refine wpAnyW_world (fun V => Below V0.heap.size V0 V ∧ V.ownsRow V0.heap.size 52 2 (.slice (some ⟨VA.heap.size, 0, none⟩) 0 0) 0 [] ∧ Blk V V0.heap.size 52 #[.string ⟨s.toArray⟩, .int .i64 p]) ⟨below_step hbA (below_alloc _ _), own_made (W := VA) V0.heap.size 52 2 (Below.size hbA), hkA.alloc _⟩ ?_
                  rintro VB ⟨hbB, hoB, hkB⟩
                  refine wpAnyW_ready (rs := [8]) (by kernel_rfl) (by simp) ?_
                  refine AllReadyW.cons rfl (fun K hK => ?_) AllReadyW.nil
                  refine step_appO entRT (by kernel_rfl) (.tmp 58) (.tmp 64) rfl V0.heap.size 0 [] _ hoB none 0 0 (entsC (([] : NL).take 0)) (by rfl) (by rfl) HI.out.l2 (HI.out.c2 _ hbB) (entsC_one _) (by unfold maxLen; omega) (by omega) (Below.size hbB) ?_
                  intro v1 VC ho8 hg8 _
                  have hbC : Below V0.heap.size V0 VC := own_grow hoB hbB hg8 (Below.size hbB)
                  refine hK.out _ _ hbC (fun _ => ?_)
                  clear hK K
                  try simp only [Act.put, List.getElem_toArray, List.getElem_cons_succ, List.getElem_cons_zero, List.setIfInBounds_toArray, List.set_cons_succ, List.set_cons_zero]
                  have hkC := hkB.grown hg8 (by simp [Value.ownBlock]; omega)
                  refine wpAnyW_ready (rs := [13]) (by kernel_rfl) (by simp) ?_
                  refine AllReadyW.cons rfl (fun K hK => ?_) AllReadyW.nil
                  refine step_appO entRT (by kernel_rfl) (.tmp 65) (.tmp 69) rfl V0.heap.size (0 + 0) ([] ++ entsC (([] : NL).take 0)) v1 ho8 _ 1 1 (entC (s, p)) (by rfl) (by rfl) rfl (cs_one2 hkC) (entC_one _) (by unfold maxLen; omega) (by omega) (Below.size hbC) ?_
                  intro v2 VD ho13 hg13 _
                  have hbD : Below V0.heap.size V0 VD := own_grow ho8 hbC hg13 (Below.size hbC)
                  refine hK.out _ _ hbD (fun _ => ?_)
                  clear hK K
                  try simp only [Act.put, List.getElem_toArray, List.getElem_cons_succ, List.getElem_cons_zero, List.setIfInBounds_toArray, List.set_cons_succ, List.set_cons_zero]
                  refine wpAnyW_ready (rs := [20]) (by kernel_rfl) (by simp) ?_
                  refine AllReadyW.cons rfl (fun K hK => ?_) AllReadyW.nil
                  refine step_appO entRT (by kernel_rfl) (.tmp 70) (.tmp 76) rfl V0.heap.size (0 + 0 + 1) ([] ++ entsC (([] : NL).take 0) ++ entC (s, p)) v2 ho13 none (0 - 0) 0 (entsC (([] : NL).drop 0)) (by rfl) (by rfl) HI.out.l3 (HI.out.c3 _ hbD) (entsC_one _) (by unfold maxLen; omega) (by omega) (Below.size hbD) ?_
                  intro v3 VE ho20 hg20 _
                  have hbE : Below V0.heap.size V0 VE := own_grow ho13 hbD hg20 (Below.size hbD)
                  refine hK.out _ _ hbE (fun _ => ?_)
                  clear hK K
                  try simp only [Act.put, List.getElem_toArray, List.getElem_cons_succ, List.getElem_cons_zero, List.setIfInBounds_toArray, List.set_cons_succ, List.set_cons_zero]
                  rw [HI.out.mm, List.nil_append] at ho20
                  obtain ⟨A2, c2, rfl⟩ := own_form2 ho20
                  (refine wpAnyW_take (i := 21) (v := ?_) rfl (by kernel_rfl) (by kernel_rfl) (by kernel_rfl) (by kernel_rfl) (fun _ _ _ h => h) (Or.inl ⟨by kernel_rfl, ?_⟩) (by assumption) ?_; rotate_left; focus (intro V9 hS9; go_simp; (try (with_reducible rfl)); done))
                  try simp only [Act.put, List.getElem_toArray, List.getElem_cons_succ, List.getElem_cons_zero, List.setIfInBounds_toArray, List.set_cons_succ, List.set_cons_zero]
                  (refine wpAnyW_take (i := 22) (v := ?_) rfl (by kernel_rfl) (by kernel_rfl) (by kernel_rfl) (by kernel_rfl) (fun _ _ _ h => h) (Or.inl ⟨by kernel_rfl, ?_⟩) (by assumption) ?_; rotate_left; focus (intro V9 hS9; go_simp; (try (with_reducible rfl)); done))
                  try simp only [Act.put, List.getElem_toArray, List.getElem_cons_succ, List.getElem_cons_zero, List.setIfInBounds_toArray, List.set_cons_succ, List.set_cons_zero]
                  refine wpAnyW_ready (rs := [23]) (by kernel_rfl) (by simp) ?_
                  refine AllReadyW.consE rfl (by kernel_rfl) (fun K hK => ?_) AllReadyW.nil
                  have hfz := HI.out.pf VE hbE
                  have gc := HI.out.sc VE hbE
                  go_simp
                  refine hK.out _ _ ?_
                  clear hK K
                  refine wpAnyW_done (by kernel_rfl) ?_ _
                  have HF := Lib.hid (HI.out.fin VE _ c2 hbE ho20)
                  go_wp2
                  go_ret
                  exact ⟨rfl, HF.out⟩
          · as_aux_lemma =>
              obtain ⟨g, tl, rfl, hgB, hblk, hnc, hcm, _⟩ := own_open2 h.row hAn
              obtain ⟨n, hn⟩ : ∃ n, L.length = n := ⟨_, rfl⟩
              rw [hn] at c0 hl hnc
              have HN := Lib.hid hn
              obtain ⟨V0, hV0⟩ : ∃ V0, V0 = W := ⟨_, rfl⟩
              rw [← hV0] at HH HF HO c0 hblk hB ⊢
              have HBK := Lib.hid hblk
              have HB := Lib.hid hB
              clear h hV0 hn hblk hB hgB
              go_enter Try.func9, Try.ntmps9
              go_upto_region 8 with (first
                | (go_at_call 18; refine HF.out.mono ?_; rintro e w' ⟨rfl, rfl⟩)
                | (go_at_call 20; refine HO.out.mono ?_; rintro e w' ⟨rfl, rfl⟩))
              go_loop [11] (fun v => ∃ k : Nat, k ≤ n ∧ v = .int .i64 (k : Int) ∧ ins1 (s, p) L = L.take k ++ ins1 (s, p) (L.drop k)) (fun v => n - (intOf v).toNat)
              case atStart => exact ⟨0, Nat.zero_le _, rfl, rfl⟩
              case round =>
                obtain ⟨k, hk, rfl, hins⟩ := hrel
                have HINS := Lib.hid hins
                clear hins
                have hway : (∃ (hkl : k < L.length), Op.bytesLess L[k].1 s = true) ∨ ((decide (k < n) = true ∧ ∃ (hkl : k < L.length), Op.bytesLess L[k].1 s = false) ∨ decide (k < n) = false) ∧ ins1 (s, p) L = L.take k ++ [(s, p)] ++ L.drop k := by
                  by_cases hkl : k < L.length
                  · cases hq : Op.bytesLess L[k].1 s with
                    | true => exact .inl ⟨hkl, hq⟩
                    | false =>
                      refine .inr ⟨.inl ⟨by rw [← HN.out]; simpa using hkl, hkl, hq⟩, ins1_stop hkl (fun hlt => by rw [(less_iff _ _).2 hlt] at hq; cases hq) (fun e9 => ?_) HINS.out⟩
                      have hmem := List.getElem_mem hkl
                      have h9 := H1.out
                      unfold get1 at h9
                      rw [Option.map_eq_none_iff, List.find?_eq_none] at h9
                      exact h9 _ hmem (by simpa using e9)
                  · exact .inr ⟨.inr (by rw [← HN.out]; simpa using hkl), ins1_end (by omega) HINS.out⟩
                rcases hway with ⟨hkl, hq⟩ | ⟨hway, hi⟩
                · have hd8 : decide (k < n) = true := by simp; rw [← HN.out]; exact hkl
                  have hkn : k < n := by rw [← HN.out]; exact hkl
                  have HSK := Lib.hid (ins1_skip (x := (s, p)) hkl ((less_iff _ _).1 hq) HINS.out)
                  obtain ⟨g', eg, e0, e1⟩ := own_ent HH.out.row rfl hkl
                  obtain rfl : g = g' := by
                    injection eg with eg
                    injection eg
                  generalize L[k] = x at *
                  obtain ⟨s1, p1⟩ := x
                  simp only at e0 e1 hq
                  clear hkl eg
                  go_wp2
                  go_round
                  case rel => exact ⟨k + 1, by omega, by go_num, HSK.out⟩
                  case measure => simp [intOf]; omega
                · have hcs2 : ∀ V, Below V0.heap.size V0 V → Cs V (some ⟨g, 0, none⟩) (entsC (L.take k)) := fun V hV => .inr ⟨_, rfl, fun t u hu => by
                    rw [Addr.add_lit, Nat.zero_add, (HBK.out.keep hV).cell]
                    rw [← entsC_take, List.getElem?_take] at hu
                    split at hu
                    · simp only [List.getElem?_toArray]
                      rw [List.getElem?_append_left (List.getElem?_eq_some_iff.1 hu).1]
                      exact hu
                    · cases hu⟩
                  obtain ⟨A3, hA3, hcs3⟩ : ∃ A3 : Addr, (if cap = k then some (⟨g, 0, none⟩ : Addr) else some ⟨g, k * 2, none⟩) = some A3 ∧ ∀ V, Below V0.heap.size V0 V → Cs V (some A3) (entsC (L.drop k)) := by
                    by_cases hc : cap = k
                    · refine ⟨⟨g, 0, none⟩, by simp [hc], fun V hV => .inl ?_⟩
                      rw [List.drop_eq_nil_of_le (by rw [HN.out]; omega)]
                      rfl
                    · refine ⟨⟨g, k * 2, none⟩, by simp [hc], fun V hV => .inr ⟨_, rfl, fun t u hu => ?_⟩⟩
                      rw [Addr.add_lit, (HBK.out.keep hV).cell, ← entsC_drop] at *
                      rw [List.getElem?_drop] at hu
                      simp only [List.getElem?_toArray]
                      rw [List.getElem?_append_left (List.getElem?_eq_some_iff.1 hu).1]
                      exact hu
                  have HI := Lib.hid (insK (k := k) (A3 := some A3) (s := s) (p := p) HH.out HB.out HN.out hk hi hcs2 hcs3)
                  clear hcs2 hcs3 hi H1
                  have hic : k ≤ cap := by omega
                  have hcm' : cap ≤ 9223372036854775807 := by unfold maxLen at hcm; omega
                  have y0 : (0 : Int) ≤ (k : Int) := by omega
                  have y2 : (k : Int) ≤ (n : Int) := by omega
                  have qi : (k : Int) ≤ (cap : Int) := by omega
                  clear hcm
                  rcases hway with ⟨hd8, hkl, hq⟩ | hd8
                  case' inl =>
                    have hkn : k < n := by rw [← HN.out]; exact hkl
                    obtain ⟨g', eg, e0, e1⟩ := own_ent HH.out.row rfl hkl
                    obtain rfl : g = g' := by
                      injection eg with eg
                      injection eg
                    generalize L[k] = x at *
                    obtain ⟨s1, p1⟩ := x
                    simp only at e0 e1 hq
                    clear hkl eg
                    go_upto_region 10 with (fail)
                  case' inr =>
                    go_upto_region 10 with (fail)
                  all_goals
                    refine wp_region_W 23 (fun V => Below V0.heap.size V0 V) (by kernel_rfl) ?_ (fun hS0 => ?_)
                    · exact (Below.refl _ _).drew
                    (refine wpAnyW_take (i := 0) (v := ?_) rfl (by kernel_rfl) (by kernel_rfl) (by kernel_rfl) (by kernel_rfl) (fun _ _ _ h => h) (Or.inl ⟨by kernel_rfl, ?_⟩) (by assumption) ?_; rotate_left; focus (intro V9 hS9; go_simp; (try (with_reducible rfl)); done))
                    try simp only [Act.put, List.getElem_toArray, List.getElem_cons_zero, List.setIfInBounds_toArray, List.set_cons_succ, List.set_cons_zero]
                    (refine wpAnyW_take (i := 2) (v := ?_) rfl (by kernel_rfl) (by kernel_rfl) (by kernel_rfl) (by kernel_rfl) (fun _ _ _ h => h) (Or.inl ⟨by kernel_rfl, ?_⟩) (by assumption) ?_; rotate_left; focus (intro V9 hS9; go_simp; (try (with_reducible rfl)); done))
                    try simp only [Act.put, List.getElem_toArray, List.getElem_cons_succ, List.getElem_cons_zero, List.setIfInBounds_toArray, List.set_cons_succ, List.set_cons_zero]
                    (refine wpAnyW_take (i := 3) (v := ?_) rfl (by kernel_rfl) (by kernel_rfl) (by kernel_rfl) (by kernel_rfl) (fun _ _ _ h => h) (Or.inl ⟨by kernel_rfl, ?_⟩) (by assumption) ?_; rotate_left; focus (intro V9 hS9; go_simp; (try (with_reducible rfl)); done))
                    try simp only [Act.put, List.getElem_toArray, List.getElem_cons_succ, List.getElem_cons_zero, List.setIfInBounds_toArray, List.set_cons_succ, List.set_cons_zero]
                    (refine wpAnyW_take (i := 4) (v := ?_) rfl (by kernel_rfl) (by kernel_rfl) (by kernel_rfl) (by kernel_rfl) (fun _ _ _ h => h) (Or.inl ⟨by kernel_rfl, ?_⟩) (by assumption) ?_; rotate_left; focus (intro V9 hS9; go_simp; (try (with_reducible rfl)); done))
                    try simp only [Act.put, List.getElem_toArray, List.getElem_cons_succ, List.getElem_cons_zero, List.setIfInBounds_toArray, List.set_cons_succ, List.set_cons_zero]
                    (refine wpAnyW_take (i := 5) (v := ?_) rfl (by kernel_rfl) (by kernel_rfl) (by kernel_rfl) (by kernel_rfl) (fun _ _ _ h => h) (Or.inl ⟨by kernel_rfl, ?_⟩) (by assumption) ?_; rotate_left; focus (intro V9 hS9; have g0 := HI.out.sc V9 hS9; go_simp; (try (with_reducible rfl)); done))
                    try simp only [Act.put, List.getElem_toArray, List.getElem_cons_succ, List.getElem_cons_zero, List.setIfInBounds_toArray, List.set_cons_succ, List.set_cons_zero]
                    (refine wpAnyW_take (i := 6) (v := ?_) rfl (by kernel_rfl) (by kernel_rfl) (by kernel_rfl) (by kernel_rfl) (fun _ _ _ h => h) (Or.inl ⟨by kernel_rfl, ?_⟩) (by assumption) ?_; rotate_left; focus (intro V9 hS9; go_simp; (try (with_reducible rfl)); done))
                    try simp only [Act.put, List.getElem_toArray, List.getElem_cons_succ, List.getElem_cons_zero, List.setIfInBounds_toArray, List.set_cons_succ, List.set_cons_zero]
                    (refine wpAnyW_take (i := 7) (v := ?_) rfl (by kernel_rfl) (by kernel_rfl) (by kernel_rfl) (by kernel_rfl) (fun _ _ _ h => h) (Or.inl ⟨by kernel_rfl, ?_⟩) (by assumption) ?_; rotate_left; focus (intro V9 hS9; go_simp; (try (with_reducible rfl)); done))
                    try simp only [Act.put, List.getElem_toArray, List.getElem_cons_succ, List.getElem_cons_zero, List.setIfInBounds_toArray, List.set_cons_succ, List.set_cons_zero]
                    (refine wpAnyW_take (i := 9) (v := ?_) rfl (by kernel_rfl) (by kernel_rfl) (by kernel_rfl) (by kernel_rfl) (fun _ _ _ h => h) (Or.inl ⟨by kernel_rfl, ?_⟩) (by assumption) ?_; rotate_left; focus (intro V9 hS9; go_simp; (try (with_reducible rfl)); done))
                    try simp only [Act.put, List.getElem_toArray, List.getElem_cons_succ, List.getElem_cons_zero, List.setIfInBounds_toArray, List.set_cons_succ, List.set_cons_zero]
                    (refine wpAnyW_take (i := 10) (v := ?_) rfl (by kernel_rfl) (by kernel_rfl) (by kernel_rfl) (by kernel_rfl) (fun _ _ _ h => h) (Or.inl ⟨by kernel_rfl, ?_⟩) (by assumption) ?_; rotate_left; focus (intro V9 hS9; go_simp; (try (with_reducible rfl)); done))
                    try simp only [Act.put, List.getElem_toArray, List.getElem_cons_succ, List.getElem_cons_zero, List.setIfInBounds_toArray, List.set_cons_succ, List.set_cons_zero]
                    (refine wpAnyW_take (i := 11) (v := ?_) rfl (by kernel_rfl) (by kernel_rfl) (by kernel_rfl) (by kernel_rfl) (fun _ _ _ h => h) (Or.inl ⟨by kernel_rfl, ?_⟩) (by assumption) ?_; rotate_left; focus (intro V9 hS9; go_simp; (try (with_reducible rfl)); done))
                    try simp only [Act.put, List.getElem_toArray, List.getElem_cons_succ, List.getElem_cons_zero, List.setIfInBounds_toArray, List.set_cons_succ, List.set_cons_zero]
                    (refine wpAnyW_take (i := 14) (v := ?_) rfl (by kernel_rfl) (by kernel_rfl) (by kernel_rfl) (by kernel_rfl) (fun _ _ _ h => h) (Or.inl ⟨by kernel_rfl, ?_⟩) (by assumption) ?_; rotate_left; focus (intro V9 hS9; go_simp; (try (with_reducible rfl)); done))
                    try simp only [Act.put, List.getElem_toArray, List.getElem_cons_succ, List.getElem_cons_zero, List.setIfInBounds_toArray, List.set_cons_succ, List.set_cons_zero]
                    (refine wpAnyW_take (i := 15) (v := ?_) rfl (by kernel_rfl) (by kernel_rfl) (by kernel_rfl) (by kernel_rfl) (fun _ _ _ h => h) (Or.inl ⟨by kernel_rfl, ?_⟩) (by assumption) ?_; rotate_left; focus (intro V9 hS9; go_simp; (try (with_reducible rfl)); done))
                    try simp only [Act.put, List.getElem_toArray, List.getElem_cons_succ, List.getElem_cons_zero, List.setIfInBounds_toArray, List.set_cons_succ, List.set_cons_zero]
                    (refine wpAnyW_take (i := 16) (v := ?_) rfl (by kernel_rfl) (by kernel_rfl) (by kernel_rfl) (by kernel_rfl) (fun _ _ _ h => h) (Or.inl ⟨by kernel_rfl, ?_⟩) (by assumption) ?_; rotate_left; focus (intro V9 hS9; go_simp; (try (with_reducible rfl)); done))
                    try simp only [Act.put, List.getElem_toArray, List.getElem_cons_succ, List.getElem_cons_zero, List.setIfInBounds_toArray, List.set_cons_succ, List.set_cons_zero]
                    (refine wpAnyW_take (i := 17) (v := ?_) rfl (by kernel_rfl) (by kernel_rfl) (by kernel_rfl) (by kernel_rfl) (fun _ _ _ h => h) (Or.inl ⟨by kernel_rfl, ?_⟩) (by assumption) ?_; rotate_left; focus (intro V9 hS9; have g0 := HI.out.sc V9 hS9; go_simp; (try (with_reducible rfl)); done))
                    try simp only [Act.put, List.getElem_toArray, List.getElem_cons_succ, List.getElem_cons_zero, List.setIfInBounds_toArray, List.set_cons_succ, List.set_cons_zero]
                    (refine wpAnyW_take (i := 18) (v := ?_) rfl (by kernel_rfl) (by kernel_rfl) (by kernel_rfl) (by kernel_rfl) (fun _ _ _ h => h) (Or.inl ⟨by kernel_rfl, ?_⟩) (by assumption) ?_; rotate_left; focus (intro V9 hS9; go_simp; (try (with_reducible rfl)); done))
                    try simp only [Act.put, List.getElem_toArray, List.getElem_cons_succ, List.getElem_cons_zero, List.setIfInBounds_toArray, List.set_cons_succ, List.set_cons_zero]
                    (refine wpAnyW_take (i := 19) (v := ?_) rfl (by kernel_rfl) (by kernel_rfl) (by kernel_rfl) (by kernel_rfl) (fun _ _ _ h => h) (Or.inl ⟨by kernel_rfl, ?_⟩) (by assumption) ?_; rotate_left; focus (intro V9 hS9; go_simp; (try (with_reducible rfl)); done))
                    try simp only [Act.put, List.getElem_toArray, List.getElem_cons_succ, List.getElem_cons_zero, List.setIfInBounds_toArray, List.set_cons_succ, List.set_cons_zero]
                    refine wpAnyW_ready (rs := [1, 12]) (by kernel_rfl) (by simp) ?_
                    refine AllReadyW.cons rfl (fun K hK => ?_) (AllReadyW.cons rfl (fun K hK => ?_) AllReadyW.nil)
                    · skip
                      go_simp
                      refine hK.out _ _ (below_step hS0 (below_alloc _ _)) (fun _ => ?_)
                      clear hK K
                      try simp only [Act.put, List.getElem_toArray, List.getElem_cons_succ, List.getElem_cons_zero, List.setIfInBounds_toArray, List.set_cons_succ, List.set_cons_zero]
                      refine wpAnyW_world (fun V => Below V0.heap.size V0 V ∧ V.ownsRow V0.heap.size 52 2 (.slice (some ⟨V0.drew.heap.size, 0, none⟩) 0 0) 0 []) ⟨below_step hS0 (below_alloc _ _), own_made (W := V0.drew) V0.heap.size 52 2 (Below.size hS0)⟩ ?_
                      rintro VA ⟨hbA, hoA⟩
                      refine wpAnyW_ready (rs := [8, 12]) (by kernel_rfl) (by simp) ?_
                      refine AllReadyW.cons rfl (fun K hK => ?_) (AllReadyW.cons rfl (fun K hK => ?_) AllReadyW.nil)
                      · skip
                        refine step_appO entRT (by kernel_rfl) (.tmp 58) (.tmp 64) rfl V0.heap.size 0 [] _ hoA (some ⟨g, 0, none⟩) k cap (entsC (L.take k)) (by rfl) (by rfl) HI.out.l2 (HI.out.c2 _ hbA) (entsC_one _) (by unfold maxLen; omega) (by omega) (Below.size hbA) ?_
                        intro v1 VB ho8 hg8 _
                        have hbB : Below V0.heap.size V0 VB := own_grow hoA hbA hg8 (Below.size hbA)
                        refine hK.out _ _ hbB (fun _ => ?_)
                        clear hK K
                        try simp only [Act.put, List.getElem_toArray, List.getElem_cons_succ, List.getElem_cons_zero, List.setIfInBounds_toArray, List.set_cons_succ, List.set_cons_zero]
                        refine wpAnyW_ready (rs := [12]) (by kernel_rfl) (by simp) ?_
                        refine AllReadyW.cons rfl (fun K hK => ?_) AllReadyW.nil
                        go_simp
                        refine hK.out _ _ (below_step hbB (below_alloc _ _)) (fun _ => ?_)
                        clear hK K
                        try simp only [Act.put, List.getElem_toArray, List.getElem_cons_succ, List.getElem_cons_zero, List.setIfInBounds_toArray, List.set_cons_succ, List.set_cons_zero]
                        refine wpAnyW_world (fun V => Below V0.heap.size V0 V ∧ V.ownsRow V0.heap.size 52 2 v1 (0 + k) ([] ++ entsC (L.take k)) ∧ Blk V VB.heap.size 52 #[.string ⟨s.toArray⟩, .int .i64 p]) ⟨below_step hbB (below_alloc _ _), ho8.alloc _, Blk.new _ _ _⟩ ?_
                        rintro VC ⟨hbC, hoC, hkC⟩
                        refine wpAnyW_ready (rs := [13]) (by kernel_rfl) (by simp) ?_
                        refine AllReadyW.cons rfl (fun K hK => ?_) AllReadyW.nil
                        refine step_appO entRT (by kernel_rfl) (.tmp 65) (.tmp 69) rfl V0.heap.size (0 + k) ([] ++ entsC (L.take k)) v1 hoC _ 1 1 (entC (s, p)) (by rfl) (by rfl) rfl (cs_one2 hkC) (entC_one _) (by unfold maxLen; omega) (by omega) (Below.size hbC) ?_
                        intro v2 VD ho13 hg13 _
                        have hbD : Below V0.heap.size V0 VD := own_grow hoC hbC hg13 (Below.size hbC)
                        refine hK.out _ _ hbD (fun _ => ?_)
                        clear hK K
                        try simp only [Act.put, List.getElem_toArray, List.getElem_cons_succ, List.getElem_cons_zero, List.setIfInBounds_toArray, List.set_cons_succ, List.set_cons_zero]
                        refine wpAnyW_ready (rs := [20]) (by kernel_rfl) (by simp) ?_
                        refine AllReadyW.cons rfl (fun K hK => ?_) AllReadyW.nil
                        refine step_appO entRT (by kernel_rfl) (.tmp 70) (.tmp 76) rfl V0.heap.size (0 + k + 1) ([] ++ entsC (L.take k) ++ entC (s, p)) v2 ho13 (some A3) (n - k) (cap - k) (entsC (L.drop k)) (by rfl) (by rfl) HI.out.l3 (HI.out.c3 _ hbD) (entsC_one _) (by unfold maxLen; omega) (by omega) (Below.size hbD) ?_
                        intro v3 VE ho20 hg20 _
                        have hbE : Below V0.heap.size V0 VE := own_grow ho13 hbD hg20 (Below.size hbD)
                        refine hK.out _ _ hbE (fun _ => ?_)
                        clear hK K
                        try simp only [Act.put, List.getElem_toArray, List.getElem_cons_succ, List.getElem_cons_zero, List.setIfInBounds_toArray, List.set_cons_succ, List.set_cons_zero]
                        rw [HI.out.mm, List.nil_append] at ho20
                        obtain ⟨A2, c2, rfl⟩ := own_form2 ho20
                        (refine wpAnyW_take (i := 21) (v := ?_) rfl (by kernel_rfl) (by kernel_rfl) (by kernel_rfl) (by kernel_rfl) (fun _ _ _ h => h) (Or.inl ⟨by kernel_rfl, ?_⟩) (by assumption) ?_; rotate_left; focus (intro V9 hS9; go_simp; (try (with_reducible rfl)); done))
                        try simp only [Act.put, List.getElem_toArray, List.getElem_cons_succ, List.getElem_cons_zero, List.setIfInBounds_toArray, List.set_cons_succ, List.set_cons_zero]
                        (refine wpAnyW_take (i := 22) (v := ?_) rfl (by kernel_rfl) (by kernel_rfl) (by kernel_rfl) (by kernel_rfl) (fun _ _ _ h => h) (Or.inl ⟨by kernel_rfl, ?_⟩) (by assumption) ?_; rotate_left; focus (intro V9 hS9; go_simp; (try (with_reducible rfl)); done))
                        try simp only [Act.put, List.getElem_toArray, List.getElem_cons_succ, List.getElem_cons_zero, List.setIfInBounds_toArray, List.set_cons_succ, List.set_cons_zero]
                        refine wpAnyW_ready (rs := [23]) (by kernel_rfl) (by simp) ?_
                        refine AllReadyW.consE rfl (by kernel_rfl) (fun K hK => ?_) AllReadyW.nil
                        have hfz := HI.out.pf VE hbE
                        have gc := HI.out.sc VE hbE
                        go_simp
                        refine hK.out _ _ ?_
                        clear hK K
                        refine wpAnyW_done (by kernel_rfl) ?_ _
                        have HF := Lib.hid (HI.out.fin VE _ c2 hbE ho20)
                        go_wp2
                        go_ret
                        exact ⟨rfl, HF.out⟩
                      · skip
                        go_simp
                        refine hK.out _ _ (below_step hbA (below_alloc _ _)) (fun _ => ?_)
                        clear hK K
                        try simp only [Act.put, List.getElem_toArray, List.getElem_cons_succ, List.getElem_cons_zero, List.setIfInBounds_toArray, List.set_cons_succ, List.set_cons_zero]
                        refine wpAnyW_world (fun V => Below V0.heap.size V0 V ∧ V.ownsRow V0.heap.size 52 2 (.slice (some ⟨V0.heap.size, 0, none⟩) 0 0) 0 [] ∧ Blk V VA.heap.size 52 #[.string ⟨s.toArray⟩, .int .i64 p] ∧ V0.heap.size < VA.heap.size) ⟨below_step hbA (below_alloc _ _), hoA.alloc _, Blk.new _ _ _, (World.ownsRow.lt hoA _ rfl).2⟩ ?_
                        rintro VB ⟨hbB, hoB, hkB, hlt9⟩
                        refine wpAnyW_ready (rs := [8]) (by kernel_rfl) (by simp) ?_
                        refine AllReadyW.cons rfl (fun K hK => ?_) AllReadyW.nil
                        refine step_appO entRT (by kernel_rfl) (.tmp 58) (.tmp 64) rfl V0.heap.size 0 [] _ hoB (some ⟨g, 0, none⟩) k cap (entsC (L.take k)) (by rfl) (by rfl) HI.out.l2 (HI.out.c2 _ hbB) (entsC_one _) (by unfold maxLen; omega) (by omega) (Below.size hbB) ?_
                        intro v1 VC ho8 hg8 _
                        have hbC : Below V0.heap.size V0 VC := own_grow hoB hbB hg8 (Below.size hbB)
                        refine hK.out _ _ hbC (fun _ => ?_)
                        clear hK K
                        try simp only [Act.put, List.getElem_toArray, List.getElem_cons_succ, List.getElem_cons_zero, List.setIfInBounds_toArray, List.set_cons_succ, List.set_cons_zero]
                        have hkC := hkB.grown hg8 (by simp [Value.ownBlock]; omega)
                        refine wpAnyW_ready (rs := [13]) (by kernel_rfl) (by simp) ?_
                        refine AllReadyW.cons rfl (fun K hK => ?_) AllReadyW.nil
                        refine step_appO entRT (by kernel_rfl) (.tmp 65) (.tmp 69) rfl V0.heap.size (0 + k) ([] ++ entsC (L.take k)) v1 ho8 _ 1 1 (entC (s, p)) (by rfl) (by rfl) rfl (cs_one2 hkC) (entC_one _) (by unfold maxLen; omega) (by omega) (Below.size hbC) ?_
                        intro v2 VD ho13 hg13 _
                        have hbD : Below V0.heap.size V0 VD := own_grow ho8 hbC hg13 (Below.size hbC)
                        refine hK.out _ _ hbD (fun _ => ?_)
                        clear hK K
                        try simp only [Act.put, List.getElem_toArray, List.getElem_cons_succ, List.getElem_cons_zero, List.setIfInBounds_toArray, List.set_cons_succ, List.set_cons_zero]
                        refine wpAnyW_ready (rs := [20]) (by kernel_rfl) (by simp) ?_
                        refine AllReadyW.cons rfl (fun K hK => ?_) AllReadyW.nil
                        refine step_appO entRT (by kernel_rfl) (.tmp 70) (.tmp 76) rfl V0.heap.size (0 + k + 1) ([] ++ entsC (L.take k) ++ entC (s, p)) v2 ho13 (some A3) (n - k) (cap - k) (entsC (L.drop k)) (by rfl) (by rfl) HI.out.l3 (HI.out.c3 _ hbD) (entsC_one _) (by unfold maxLen; omega) (by omega) (Below.size hbD) ?_
                        intro v3 VE ho20 hg20 _
                        have hbE : Below V0.heap.size V0 VE := own_grow ho13 hbD hg20 (Below.size hbD)
                        refine hK.out _ _ hbE (fun _ => ?_)
                        clear hK K
                        try simp only [Act.put, List.getElem_toArray, List.getElem_cons_succ, List.getElem_cons_zero, List.setIfInBounds_toArray, List.set_cons_succ, List.set_cons_zero]
                        rw [HI.out.mm, List.nil_append] at ho20
                        obtain ⟨A2, c2, rfl⟩ := own_form2 ho20
                        (refine wpAnyW_take (i := 21) (v := ?_) rfl (by kernel_rfl) (by kernel_rfl) (by kernel_rfl) (by kernel_rfl) (fun _ _ _ h => h) (Or.inl ⟨by kernel_rfl, ?_⟩) (by assumption) ?_; rotate_left; focus (intro V9 hS9; go_simp; (try (with_reducible rfl)); done))
                        try simp only [Act.put, List.getElem_toArray, List.getElem_cons_succ, List.getElem_cons_zero, List.setIfInBounds_toArray, List.set_cons_succ, List.set_cons_zero]
                        (refine wpAnyW_take (i := 22) (v := ?_) rfl (by kernel_rfl) (by kernel_rfl) (by kernel_rfl) (by kernel_rfl) (fun _ _ _ h => h) (Or.inl ⟨by kernel_rfl, ?_⟩) (by assumption) ?_; rotate_left; focus (intro V9 hS9; go_simp; (try (with_reducible rfl)); done))
                        try simp only [Act.put, List.getElem_toArray, List.getElem_cons_succ, List.getElem_cons_zero, List.setIfInBounds_toArray, List.set_cons_succ, List.set_cons_zero]
                        refine wpAnyW_ready (rs := [23]) (by kernel_rfl) (by simp) ?_
                        refine AllReadyW.consE rfl (by kernel_rfl) (fun K hK => ?_) AllReadyW.nil
                        have hfz := HI.out.pf VE hbE
                        have gc := HI.out.sc VE hbE
                        go_simp
                        refine hK.out _ _ ?_
                        clear hK K
                        refine wpAnyW_done (by kernel_rfl) ?_ _
                        have HF := Lib.hid (HI.out.fin VE _ c2 hbE ho20)
                        go_wp2
                        go_ret
                        exact ⟨rfl, HF.out⟩
                    · skip
                      go_simp
                      refine hK.out _ _ (below_step hS0 (below_alloc _ _)) (fun _ => ?_)
                      clear hK K
                      try simp only [Act.put, List.getElem_toArray, List.getElem_cons_succ, List.getElem_cons_zero, List.setIfInBounds_toArray, List.set_cons_succ, List.set_cons_zero]
                      refine wpAnyW_world (fun V => Below V0.heap.size V0 V ∧ Blk V V0.heap.size 52 #[.string ⟨s.toArray⟩, .int .i64 p] ∧ V0.heap.size < V.heap.size) ⟨below_step hS0 (below_alloc _ _), Blk.new V0.drew _ _, by simp⟩ ?_
                      rintro VA ⟨hbA, hkA, hsA⟩
                      refine wpAnyW_ready (rs := [1]) (by kernel_rfl) (by simp) ?_
                      refine AllReadyW.cons rfl (fun K hK => ?_) AllReadyW.nil
                      go_simp
                      refine hK.out _ _ (below_step hbA (below_alloc _ _)) (fun _ => ?_)
                      clear hK K
                      try simp only [Act.put, List.getElem_toArray, List.getElem_cons_succ, List.getElem_cons_zero, List.setIfInBounds_toArray, List.set_cons_succ, List.set_cons_zero]
                      refine wpAnyW_world (fun V => Below V0.heap.size V0 V ∧ V.ownsRow V0.heap.size 52 2 (.slice (some ⟨VA.heap.size, 0, none⟩) 0 0) 0 [] ∧ Blk V V0.heap.size 52 #[.string ⟨s.toArray⟩, .int .i64 p]) ⟨below_step hbA (below_alloc _ _), own_made (W := VA) V0.heap.size 52 2 (Below.size hbA), hkA.alloc _⟩ ?_
                      rintro VB ⟨hbB, hoB, hkB⟩
                      refine wpAnyW_ready (rs := [8]) (by kernel_rfl) (by simp) ?_
                      refine AllReadyW.cons rfl (fun K hK => ?_) AllReadyW.nil
                      refine step_appO entRT (by kernel_rfl) (.tmp 58) (.tmp 64) rfl V0.heap.size 0 [] _ hoB (some ⟨g, 0, none⟩) k cap (entsC (L.take k)) (by rfl) (by rfl) HI.out.l2 (HI.out.c2 _ hbB) (entsC_one _) (by unfold maxLen; omega) (by omega) (Below.size hbB) ?_
                      intro v1 VC ho8 hg8 _
                      have hbC : Below V0.heap.size V0 VC := own_grow hoB hbB hg8 (Below.size hbB)
                      refine hK.out _ _ hbC (fun _ => ?_)
                      clear hK K
                      try simp only [Act.put, List.getElem_toArray, List.getElem_cons_succ, List.getElem_cons_zero, List.setIfInBounds_toArray, List.set_cons_succ, List.set_cons_zero]
                      have hkC := hkB.grown hg8 (by simp [Value.ownBlock]; omega)
                      refine wpAnyW_ready (rs := [13]) (by kernel_rfl) (by simp) ?_
                      refine AllReadyW.cons rfl (fun K hK => ?_) AllReadyW.nil
                      refine step_appO entRT (by kernel_rfl) (.tmp 65) (.tmp 69) rfl V0.heap.size (0 + k) ([] ++ entsC (L.take k)) v1 ho8 _ 1 1 (entC (s, p)) (by rfl) (by rfl) rfl (cs_one2 hkC) (entC_one _) (by unfold maxLen; omega) (by omega) (Below.size hbC) ?_
                      intro v2 VD ho13 hg13 _
                      have hbD : Below V0.heap.size V0 VD := own_grow ho8 hbC hg13 (Below.size hbC)
                      refine hK.out _ _ hbD (fun _ => ?_)
                      clear hK K
                      try simp only [Act.put, List.getElem_toArray, List.getElem_cons_succ, List.getElem_cons_zero, List.setIfInBounds_toArray, List.set_cons_succ, List.set_cons_zero]
                      refine wpAnyW_ready (rs := [20]) (by kernel_rfl) (by simp) ?_
                      refine AllReadyW.cons rfl (fun K hK => ?_) AllReadyW.nil
                      refine step_appO entRT (by kernel_rfl) (.tmp 70) (.tmp 76) rfl V0.heap.size (0 + k + 1) ([] ++ entsC (L.take k) ++ entC (s, p)) v2 ho13 (some A3) (n - k) (cap - k) (entsC (L.drop k)) (by rfl) (by rfl) HI.out.l3 (HI.out.c3 _ hbD) (entsC_one _) (by unfold maxLen; omega) (by omega) (Below.size hbD) ?_
                      intro v3 VE ho20 hg20 _
                      have hbE : Below V0.heap.size V0 VE := own_grow ho13 hbD hg20 (Below.size hbD)
                      refine hK.out _ _ hbE (fun _ => ?_)
                      clear hK K
                      try simp only [Act.put, List.getElem_toArray, List.getElem_cons_succ, List.getElem_cons_zero, List.setIfInBounds_toArray, List.set_cons_succ, List.set_cons_zero]
                      rw [HI.out.mm, List.nil_append] at ho20
                      obtain ⟨A2, c2, rfl⟩ := own_form2 ho20
                      (refine wpAnyW_take (i := 21) (v := ?_) rfl (by kernel_rfl) (by kernel_rfl) (by kernel_rfl) (by kernel_rfl) (fun _ _ _ h => h) (Or.inl ⟨by kernel_rfl, ?_⟩) (by assumption) ?_; rotate_left; focus (intro V9 hS9; go_simp; (try (with_reducible rfl)); done))
                      try simp only [Act.put, List.getElem_toArray, List.getElem_cons_succ, List.getElem_cons_zero, List.setIfInBounds_toArray, List.set_cons_succ, List.set_cons_zero]
                      (refine wpAnyW_take (i := 22) (v := ?_) rfl (by kernel_rfl) (by kernel_rfl) (by kernel_rfl) (by kernel_rfl) (fun _ _ _ h => h) (Or.inl ⟨by kernel_rfl, ?_⟩) (by assumption) ?_; rotate_left; focus (intro V9 hS9; go_simp; (try (with_reducible rfl)); done))
                      try simp only [Act.put, List.getElem_toArray, List.getElem_cons_succ, List.getElem_cons_zero, List.setIfInBounds_toArray, List.set_cons_succ, List.set_cons_zero]
                      refine wpAnyW_ready (rs := [23]) (by kernel_rfl) (by simp) ?_
                      refine AllReadyW.consE rfl (by kernel_rfl) (fun K hK => ?_) AllReadyW.nil
                      have hfz := HI.out.pf VE hbE
                      have gc := HI.out.sc VE hbE
                      go_simp
                      refine hK.out _ _ ?_
                      clear hK K
                      refine wpAnyW_done (by kernel_rfl) ?_ _
                      have HF := Lib.hid (HI.out.fin VE _ c2 hbE ho20)
                      go_wp2
                      go_ret
                      exact ⟨rfl, HF.out⟩
end
end Go.Proofs.Ytfkolemkmhcbfaa
