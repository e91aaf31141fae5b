/- Links (layer 18): the document's Of. -/
import Derived.Test.YtpfikhamokjdjaaLkZ
namespace Go.Proofs.Ytpfikhamokjdjaa
open Go.RowKit Go.Sort
set_option linter.unusedVariables false

def ro1 (a : Int) (p : Int × Int) : Option Int := if p.2 = a then some p.1 else none
def ro2 (a : Int) (p : Int × Int) : Option Int := if p.1 = a then some p.2 else none
def rofP (P : PL) (a : Int) : List Int := P.filterMap (ro1 a) ++ P.filterMap (ro2 a)
theorem rof_perm (a : Int) : ∀ P : PL, (∀ p ∈ P, p.1 < p.2) → (P.filterMap (othP a)).Perm (rofP P a)
  | [], _ => List.Perm.refl _
  | p :: r, h => by
    have ih := rof_perm a r (fun q hq => h q (List.mem_cons_of_mem _ hq))
    have hp := h p (by simp)
    unfold rofP at *
    by_cases h1 : p.1 = a
    · have e1 : othP a p = some p.2 := by unfold othP; rw [if_pos h1.symm]
      have e2 : ro1 a p = none := by unfold ro1; rw [if_neg (by omega)]
      have e3 : ro2 a p = some p.2 := by unfold ro2; rw [if_pos h1]
      rw [List.filterMap_cons_some e1, List.filterMap_cons_none e2, List.filterMap_cons_some e3]
      exact (ih.cons _).trans List.perm_middle.symm
    · by_cases h2 : p.2 = a
      · have e1 : othP a p = some p.1 := by unfold othP; rw [if_neg (fun e => h1 e.symm), if_pos h2.symm]
        have e2 : ro1 a p = some p.1 := by unfold ro1; rw [if_pos h2]
        have e3 : ro2 a p = none := by unfold ro2; rw [if_neg h1]
        rw [List.filterMap_cons_some e1, List.filterMap_cons_some e2, List.filterMap_cons_none e3]
        exact ih.cons _
      · have e1 : othP a p = none := by unfold othP; rw [if_neg (fun e => h1 e.symm), if_neg (fun e => h2 e.symm)]
        have e2 : ro1 a p = none := by unfold ro1; rw [if_neg h2]
        have e3 : ro2 a p = none := by unfold ro2; rw [if_neg h1]
        rw [List.filterMap_cons_none e1, List.filterMap_cons_none e2, List.filterMap_cons_none e3]
        exact ih
theorem fm_pair {R : Int → Int → Prop} {f : Int × Int → Option Int} (hf : ∀ p q y z, lexL p q → f p = some y → f q = some z → R y z) : ∀ P : PL, psOrd P → (P.filterMap f).Pairwise R
  | [], _ => List.Pairwise.nil
  | p :: r, h => by
    obtain ⟨h1, h2⟩ := List.pairwise_cons.1 h
    have ih := fm_pair hf r h2
    cases hp : f p with
    | none => rw [List.filterMap_cons_none hp]; exact ih
    | some y =>
      rw [List.filterMap_cons_some hp]
      refine List.pairwise_cons.2 ⟨fun z hz => ?_, ih⟩
      obtain ⟨q, hq, hz⟩ := List.mem_filterMap.1 hz
      exact hf p q y z (h1 q hq) hp hz
theorem rofP_eq {L : PL} {K : WL} (h : LOk L K) (a : Int) : rofP (psP L) a = ofP L a := by
  have hlt : ∀ p ∈ psP L, p.1 < p.2 := fun p hp => (h.ok p ((psP_perm L).mem_iff.1 hp)).1
  refine (ofP_is (((psP_perm L).filterMap (othP a)).symm.trans (rof_perm a _ hlt)) ?_).symm
  have ho := psP_ord h
  unfold rofP
  refine List.pairwise_append.2 ⟨fm_pair (fun p q y z hpq hy hz => ?_) _ ho, fm_pair (fun p q y z hpq hy hz => ?_) _ ho, fun y hy z hz => ?_⟩
  · unfold ro1 at *
    unfold lexL at hpq
    split at hy
    · split at hz
      · cases hy; cases hz; omega
      · cases hz
    · cases hy
  · unfold ro2 at *
    unfold lexL at hpq
    split at hy
    · split at hz
      · cases hy; cases hz; omega
      · cases hz
    · cases hy
  · obtain ⟨p, hp, hy⟩ := List.mem_filterMap.1 hy
    obtain ⟨q, hq, hz⟩ := List.mem_filterMap.1 hz
    have h1 := hlt p hp
    have h2 := hlt q hq
    unfold ro1 at hy
    unfold ro2 at hz
    split at hy
    · split at hz
      · cases hy; cases hz; omega
      · cases hz
    · cases hy
theorem rof_len (P : PL) (a : Int) : (rofP P a).length ≤ 2 * P.length := by
  unfold rofP
  rw [List.length_append]
  have h1 := List.length_filterMap_le (ro1 a) P
  have h2 := List.length_filterMap_le (ro2 a) P
  omega
section
variable {W V : World} {B pr cP cW : Nat} {AP AW : Option Addr} {P : PL} {K : WL}
set_option maxRecDepth 100000 in
set_option maxHeartbeats 4000000 in
theorem rof_v (h : RK W B pr AP cP AW cW P K) (a : Int) (hl : P.length ≤ 400000) :
    Calls Try.prog 26 #[.pointer (some ⟨pr, 0, none⟩), .int .i64 a] W (OfEnds W (rofP P a)) := by
  have HH := Lib.hid h
  obtain ⟨n, hn⟩ : ∃ n, P.length = n := ⟨_, rfl⟩
  have HN := Lib.hid hn
  have hnb : n ≤ 400000 := by omega
  clear h hn hl
  go_enter Try.func26, Try.ntmps26
  go_wp2
  go_loopw [5, 6] (fun u i wr => ∃ (k m : Nat) (xs : List Int), k ≤ n ∧ i = .int .i64 (k : Int) ∧ m ≤ k ∧ xs.length = m ∧ wr.ownsRow W.heap.size 2 1 u m (xs.map (Value.int .i64)) ∧ xs ++ ((P.drop k).filterMap (ro1 a)) = P.filterMap (ro1 a) ∧ Below W.heap.size W wr) (fun _ i _ => n + 1 - (intOf i).toNat)
  case atStart => exact ⟨0, 0, [], Nat.zero_le _, rfl, Nat.le_refl _, rfl, World.ownsRow_nil _ _ _ _, by simp, Below.refl _ _⟩
  case round =>
    obtain ⟨k, m, xs, hk, rfl, hmk, hxm, hrow, hxs, hb⟩ := hrel
    have HROW := Lib.hid hrow
    have HXS := Lib.hid hxs
    have HXM := Lib.hid hxm
    have HB := Lib.hid hb
    have hrk := HH.out.keep hb
    have m0 := hrk.obj.cell 0
    rw [HN.out] at m0
    have HRP := Lib.hid hrk.p
    clear hrow hxs hxm hb hrk
    by_cases hlt : k < n
    · have hkp : k < P.length := by rw [HN.out]; exact hlt
      have hd : decide (k < n) = true := by simpa using hlt
      have hr := HRP.out
      rw [HN.out] at hr
      obtain ⟨g, rfl, hc⟩ := own_at9 (g := 0) (c := cP) hr (by omega)
      obtain ⟨z0, z1⟩ := cell75 hr hkp HN.out
      have hdr := List.drop_eq_getElem_cons hkp
      generalize P[k] = x at z0 z1 hdr
      obtain ⟨xa, xb⟩ := x
      simp only at z0 z1
      have HDR := Lib.hid hdr
      have q1 : (0 : Int) ≤ (k : Int) := by omega
      have q2 : (k : Int) < (n : Int) := by omega
      clear hr hdr hkp
      by_cases c1 : xb = a
      · have d1 : (xb == a) = true := by simpa using c1
        have HNX := Lib.hid (show (xs ++ [xa]) ++ ((P.drop (k + 1)).filterMap (ro1 a)) = P.filterMap (ro1 a) by rw [← HXS.out, HDR.out, List.filterMap_cons_some (by unfold ro1; rw [if_pos c1])]; simp)
        clear c1
        go_wp2_with (at_builtin; (refine wpList_app i64T rfl (.tmp 27) (.tmp 36) rfl W.heap.size u5 m _ rfl (own_bel HROW.out (below_alloc wr _)) (some ⟨wr.heap.size, 0, none⟩) 1 1 [.int .i64 xa] rfl rfl (cs_one_val _ _ _) (by simp [Value.oneCell']) (by unfold maxLen; omega) (by omega) (by have := HB.out.size; simp; omega) ?_); intro v3 w3 ho3 hg3 hat3; have HO3 := Lib.hid ho3; have HB3 := Lib.hid (below_of_grown2 (B := W.heap.size) hg3 (by have := HB.out.size; simp; omega) (fun j e => (World.ownsRow.lt HROW.out j e).1)); clear ho3 hg3 hat3)
        clear m0 z0 z1 d1
        go_roundw
        case rel => exact ⟨k + 1, m + 1, xs ++ [xa], hlt, by go_num, by omega, by rw [List.length_append, HXM.out]; rfl, by rw [List.map_append]; exact HO3.out, HNX.out, (HB.out.trans ((below_alloc _ _).mono HB.out.size)).trans HB3.out⟩
        case measure => simp [intOf]; omega
      · have d1 : (xb == a) = false := by simpa using c1
        have HNX := Lib.hid (show xs ++ ((P.drop (k + 1)).filterMap (ro1 a)) = P.filterMap (ro1 a) by rw [← HXS.out, HDR.out, List.filterMap_cons_none (by unfold ro1; rw [if_neg c1])])
        clear c1
        go_wp2
        clear m0 z0 z1 d1
        go_roundw
        case rel => exact ⟨k + 1, m, xs, hlt, by go_num, by omega, HXM.out, HROW.out, HNX.out, HB.out⟩
        case measure => simp [intOf]; omega
    · obtain rfl : n = k := by omega
      have hd : decide (n < n) = false := by simp
      have HX1 := Lib.hid (show xs = P.filterMap (ro1 a) by have h9 := HXS.out; rw [List.drop_of_length_le (by rw [HN.out]; exact Nat.le_refl _)] at h9; simpa using h9)
      go_wp2
      clear m0
      go_loopw [5, 7] (fun u i wr => ∃ (k m : Nat) (xs : List Int), k ≤ n ∧ i = .int .i64 (k : Int) ∧ m ≤ n + k ∧ xs.length = m ∧ wr.ownsRow W.heap.size 2 1 u m (xs.map (Value.int .i64)) ∧ xs ++ ((P.drop k).filterMap (ro2 a)) = rofP P a ∧ Below W.heap.size W wr) (fun _ i _ => n + 1 - (intOf i).toNat)
      case atStart => exact ⟨0, m, xs, Nat.zero_le _, rfl, by omega, HXM.out, HROW.out, by rw [HX1.out]; rfl, HB.out⟩
      case round =>
        obtain ⟨k, m, xs, hk, rfl, hmk, hxm, hrow, hxs, hb⟩ := hrel
        have HROX := Lib.hid hrow
        have HYS := Lib.hid hxs
        have HYM := Lib.hid hxm
        have HBX := Lib.hid hb
        have hrk := HH.out.keep hb
        have m0 := hrk.obj.cell 0
        rw [HN.out] at m0
        have HRP := Lib.hid hrk.p
        clear hrow hxs hxm hb hrk
        by_cases hlt : k < n
        · have hkp : k < P.length := by rw [HN.out]; exact hlt
          have hd : decide (k < n) = true := by simpa using hlt
          have hr := HRP.out
          rw [HN.out] at hr
          obtain ⟨g, rfl, hc⟩ := own_at9 (g := 0) (c := cP) hr (by omega)
          obtain ⟨z0, z1⟩ := cell75 hr hkp HN.out
          have hdr := List.drop_eq_getElem_cons hkp
          generalize P[k] = x at z0 z1 hdr
          obtain ⟨xa, xb⟩ := x
          simp only at z0 z1
          have HDR := Lib.hid hdr
          have q1 : (0 : Int) ≤ (k : Int) := by omega
          have q2 : (k : Int) < (n : Int) := by omega
          clear hr hdr hkp
          by_cases c1 : xa = a
          · have d1 : (xa == a) = true := by simpa using c1
            have HNX := Lib.hid (show (xs ++ [xb]) ++ ((P.drop (k + 1)).filterMap (ro2 a)) = rofP P a by rw [← HYS.out, HDR.out, List.filterMap_cons_some (by unfold ro2; rw [if_pos c1])]; simp)
            clear c1
            go_wp2_with (at_builtin; (refine wpList_app i64T rfl (.tmp 57) (.tmp 66) rfl W.heap.size u5 m _ rfl (own_bel HROX.out (below_alloc wr _)) (some ⟨wr.heap.size, 0, none⟩) 1 1 [.int .i64 xb] rfl rfl (cs_one_val _ _ _) (by simp [Value.oneCell']) (by unfold maxLen; omega) (by omega) (by have := HBX.out.size; simp; omega) ?_); intro v3 w3 ho3 hg3 hat3; have HO3 := Lib.hid ho3; have HB3 := Lib.hid (below_of_grown2 (B := W.heap.size) hg3 (by have := HBX.out.size; simp; omega) (fun j e => (World.ownsRow.lt HROX.out j e).1)); clear ho3 hg3 hat3)
            clear m0 z0 z1 d1
            go_roundw
            case rel => exact ⟨k + 1, m + 1, xs ++ [xb], hlt, by go_num, by omega, by rw [List.length_append, HYM.out]; rfl, by rw [List.map_append]; exact HO3.out, HNX.out, (HBX.out.trans ((below_alloc _ _).mono HBX.out.size)).trans HB3.out⟩
            case measure => simp [intOf]; omega
          · have d1 : (xa == a) = false := by simpa using c1
            have HNX := Lib.hid (show xs ++ ((P.drop (k + 1)).filterMap (ro2 a)) = rofP P a by rw [← HYS.out, HDR.out, List.filterMap_cons_none (by unfold ro2; rw [if_neg c1])])
            clear c1
            go_wp2
            clear m0 z0 z1 d1
            go_roundw
            case rel => exact ⟨k + 1, m, xs, hlt, by go_num, by omega, HYM.out, HROX.out, HNX.out, HBX.out⟩
            case measure => simp [intOf]; omega
        · obtain rfl : k = n := by omega
          have hd : decide (k < k) = false := by simp
          have HX2 := Lib.hid (show xs = rofP P a by have h9 := HYS.out; rw [List.drop_of_length_le (by rw [HN.out]; exact Nat.le_refl _)] at h9; simpa using h9)
          go_wp2
          go_ret
          exact ⟨_, rfl, by rw [← HX2.out, HYM.out]; exact HROX.out, HBX.out⟩
end
end Go.Proofs.Ytpfikhamokjdjaa
