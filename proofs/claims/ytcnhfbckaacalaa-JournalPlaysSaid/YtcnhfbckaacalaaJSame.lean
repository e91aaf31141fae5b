/- The walk of the statement JournalNil. The walk of same of the statements of layer 6: whether records are these texts. -/
import Derived.Test.YtcnhfbckaacalaaJLive
namespace Go.Proofs.Ytcnhfbckaacalaa
section
open Go.RowKit
set_option linter.unusedVariables false

theorem live_from {w W : World} (h : Below w.heap.size w W) : Calls Try.prog 9 #[] W (Yes w) :=
  (live_any W).mono fun e w' ⟨he, hb⟩ => ⟨he, below_step h hb⟩
set_option maxRecDepth 100000 in
set_option maxHeartbeats 1000000 in
theorem nil_any (fr ln e : Int) (A : Option Addr) (n c : Nat) (w : World) :
    Calls Try.prog 6 #[.agg #[.int .i64 fr, .int .i64 ln], .slice A n c, .int .i64 e] w (Yes w) := by
  have hB : Blk (w.alloc (.cells #[.int .i64 fr, .int .i64 ln] 34)) w.heap.size 34 #[.int .i64 fr, .int .i64 ln] := Blk.new _ _ _
  have e0 : (w.alloc (.cells #[.int .i64 fr, .int .i64 ln] 34)).cell? ⟨w.heap.size, 0, none⟩ = some (.int .i64 fr) := hB.cell 0
  have e1 : (w.alloc (.cells #[.int .i64 fr, .int .i64 ln] 34)).cell? ⟨w.heap.size, 1, none⟩ = some (.int .i64 ln) := hB.cell 1
  have HBL := Lib.hid (below_alloc w (.cells #[.int .i64 fr, .int .i64 ln] 34))
  clear hB
  by_cases h : 20000 < n
  · have hd : decide ((20000 : Int) < (n : Int)) = true := by simp; omega
    clear h
    go_enter Try.func6, Try.ntmps6
    go_wp2_with (go_at_call 9; refine (live_from HBL.out).mono ?_; rintro r w1 ⟨rfl, hb1⟩)
    go_ret
    exact ⟨rfl, hb1⟩
  · have hd : decide ((20000 : Int) < (n : Int)) = false := by simp; omega
    clear h
    go_enter Try.func6, Try.ntmps6
    go_wp2_with (first
      | (go_at_call 12; refine (jopen_nil _ _ _ _).mono ?_; rintro r w2 ⟨rfl, hb2⟩; have hbw := below_step HBL.out hb2)
      | (go_at_call 11; refine (num_any _ _).mono ?_; rintro e w' ⟨rfl, rfl⟩)
      | (go_at_call 17; refine (jappend_nil _ _ _ _).mono ?_; rintro e w' ⟨rfl, rfl⟩)
      | (go_at_call 19; refine (jflush_nil _).mono ?_; rintro e w' ⟨rfl, rfl⟩)
      | (go_at_call 25; refine (jbegin_nil _ _).mono ?_; rintro e w' ⟨rfl, rfl⟩)
      | (go_at_call 13; refine (jroom_nil _).mono ?_; rintro e w' ⟨rfl, rfl⟩)
      | (go_at_call 15; refine (jused_nil _).mono ?_; rintro e w' ⟨rfl, rfl⟩)
      | (go_at_call 18; refine (jsafe_nil _).mono ?_; rintro e w' ⟨rfl, rfl⟩)
      | (go_at_call 20; refine (jrecords_nil _).mono ?_; rintro e w' ⟨rfl, rfl⟩)
      | (go_at_call 9; refine (live_from hbw).mono ?_; rintro r w1 ⟨rfl, hb1⟩))
    go_ret
    exact ⟨rfl, hb1⟩
end
section
open Go.RowKit
set_option linter.unusedVariables false

theorem Recs.rdl {base : Nat} {w : World} {A : Option Addr} {n c : Nat} {rs : List (List UInt8)} {vals : List Value} (h : Recs base w (.slice A n c) rs vals) : RdL w A rs := by
  by_cases h0 : rs.length = 0
  · exact .inl (List.eq_nil_of_length_eq_zero h0)
  · obtain ⟨g, B, cB, e, _, _⟩ := h.at_ 0 (by omega)
    refine .inr ⟨g, 0, e, fun j hj => ?_⟩
    obtain ⟨g', B, cB, e', h1, h2⟩ := h.at_ j hj
    rw [e] at e'
    injection e' with e'
    injection e' with e'
    subst e'
    exact ⟨B, cB, by rw [Nat.zero_add]; exact h1, h2⟩
theorem rdt_drewN {w : World} {A : Option Addr} {l : List (List UInt8)} (h : RdT w A l) (q : Nat) : RdT (w.drewN q) A l := h.below (below_drewN (Below.refl _ _) q)
theorem rdl_drewN {w : World} {A : Option Addr} {l : List (List UInt8)} (h : RdL w A l) (q : Nat) : RdL (w.drewN q) A l := h.below (below_drewN (Below.refl _ _) q)
set_option maxRecDepth 100000 in
set_option maxHeartbeats 1000000 in
theorem same_any (A B : Option Addr) (na ca nb cb : Nat) (xs ys : List (List UInt8)) (w : World) (hla : xs.length = na) (hlb : ys.length = nb) (hra : RdL w A xs) (hrb : RdT w B ys) (hna : na ≤ 9223372036854775807) :
    Calls Try.prog 21 #[.slice A na ca, .slice B nb cb] w fun e w' => e = .returned (.bool (decide (xs = ys))) ∧ ∃ q, w' = w.drewN q := by
  by_cases hne : na = nb
  rotate_left
  · have hd : ((na : Int) != (nb : Int)) = true := by rw [bne_iff_ne]; omega
    have hd2 : (na != nb) = true := by simp; omega
    have HE : Hid (decide (xs = ys) = false) := by
      show _ = _
      rw [decide_eq_false_iff_not]
      intro e
      rw [e] at hla
      omega
    clear hne hla hlb
    go_enter Try.func21, Try.ntmps21
    go_wp2
    go_ret
    exact ⟨by rw [HE.out]; rfl, 0, rfl⟩
  subst hne
  have HLA := Lib.hid hla
  have HLB := Lib.hid hlb
  have HRA := Lib.hid (fun q => rdl_drewN hra q)
  have HRB := Lib.hid (fun q => rdt_drewN hrb q)
  clear hla hlb hra hrb
  go_enter Try.func21, Try.ntmps21
  go_wp2
  go_loopw [5] (fun i wr => ∃ k q : Nat, k ≤ na ∧ i = .int .i64 (k : Int) ∧ wr = w.drewN q ∧ xs.take k = ys.take k) (fun i _ => na - (intOf i).toNat)
  case atStart => exact ⟨0, 0, Nat.zero_le _, rfl, rfl, rfl⟩
  case round =>
    obtain ⟨k, q0, hk, rfl, hwr, htk⟩ := hrel
    have HRA2 : Hid (RdL wr A xs) := by rw [hwr]; exact HRA.out q0
    have HRB2 : Hid (RdT wr B ys) := by rw [hwr]; exact HRB.out q0
    have HW : Hid (∀ q, ∃ q', wr.drewN q = w.drewN q') := fun q => by rw [hwr, World.drewN_drewN]; exact ⟨_, rfl⟩
    have HW0 := Lib.hid hwr
    clear hwr
    by_cases hlt : k < na
    · have d1 : decide (k < na) = true := by simpa using hlt
      have hka : k < xs.length := by rw [HLA.out]; exact hlt
      have hkb : k < ys.length := by rw [HLB.out]; exact hlt
      obtain ⟨b, off, C, cC, rfl, hcell, hrd⟩ := HRA2.out.at_ hka
      obtain ⟨b', off', rfl, hcell'⟩ := HRB2.out.at_ hkb
      have hT : xs.take (k + 1) = xs.take k ++ [xs[k]] := List.take_succ_eq_append_getElem hka
      have hT' : ys.take (k + 1) = ys.take k ++ [ys[k]] := List.take_succ_eq_append_getElem hkb
      have hA9 : xs[k] ≠ ys[k] → xs ≠ ys := fun h e => h (by subst e; rfl)
      generalize xs[k] = x at *
      generalize ys[k] = y at *
      have hst : ∀ q, (convert 23 9 (.slice C x.length cC)).run Try.prog (wr.drewN q) = .ok (.string ⟨x.toArray⟩) (wr.drewN q) := fun q => run_str (P := Try.prog) Try.underlying23 Try.underlying5 Try.underlying9 (wr.drewN q) C x.length cC x rfl (hrd.below (below_drewN (Below.refl _ _) q))
      have d2 : decide ((0 : Int) ≤ (k : Int)) = true := by simp
      by_cases he : x = y
      · have hE : (x == y) = true := by simpa using he
        have HT : Hid (xs.take (k + 1) = ys.take (k + 1)) := by
          show _ = _
          rw [hT, hT', htk, he]
        clear hT hT' htk he hA9 hrd
        go_upto_region 6 with (fail)
        go_quiet (fail)
        go_wp2
        go_roundw
        case rel =>
          obtain ⟨q', hq'⟩ := HW.out nq
          exact ⟨k + 1, q', by omega, by go_num, hq', HT.out⟩
        case measure => simp [intOf]; omega
      · have hE : (x == y) = false := by simpa using he
        have HE : Hid (decide (xs = ys) = false) := by
          show _ = _
          rw [decide_eq_false_iff_not]
          exact hA9 he
        clear hT hT' htk he hA9 hrd
        go_upto_region 6 with (fail)
        go_quiet (fail)
        go_wp2
        go_ret
        exact ⟨by rw [HE.out]; rfl, HW.out nq⟩
    · obtain rfl : k = na := by omega
      have d1 : decide (k < k) = false := by simp
      have HE : Hid (decide (xs = ys) = true) := by
        show _ = _
        rw [decide_eq_true_iff]
        rw [List.take_of_length_le (by rw [HLA.out]; exact Nat.le_refl _), List.take_of_length_le (by rw [HLB.out]; exact Nat.le_refl _)] at htk
        exact htk
      clear htk
      go_wp2
      go_ret
      exact ⟨by rw [HE.out]; rfl, q0, HW0.out⟩
end
end Go.Proofs.Ytcnhfbckaacalaa
