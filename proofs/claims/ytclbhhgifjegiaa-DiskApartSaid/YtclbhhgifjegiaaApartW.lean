/- The walk of the statement DiskApart. -/
import Derived.Test.YtclbhhgifjegiaaDiskL
namespace Go.Proofs.Ytclbhhgifjegiaa
open Go.RowKit
set_option linter.unusedVariables false

/-- What block i holds behind two writes. -/
def wantAt (n m : Int) (l l' : List UInt8) (i : Nat) : List UInt8 := if (i : Int) = m then l' else if (i : Int) = n then l else []

theorem apart_blocks {n m : Int} {l l' : List UInt8} (hl : l.length ≤ 64) (hl' : l'.length ≤ 64) (hn : 0 ≤ n ∧ n < 16) (hm : 0 ≤ m ∧ m < 16) :
    ((DS.fresh 16 64).write n l).1 = 0 ∧ (((DS.fresh 16 64).write n l).2.write m l').1 = 0 ∧ ((DS.fresh 16 64).write n l).2.Ok ∧ (((DS.fresh 16 64).write n l).2.write m l').2.Ok ∧
      ∀ i : Nat, i < 16 → (((DS.fresh 16 64).write n l).2.write m l').2.read i = (0, padB 64 (wantAt n m l l' i)) := by
  have ok0 : (DS.fresh 16 64).Ok := DS.fresh_ok (by omega) (by omega) (by omega) (by omega)
  have e1 := write_done (d := DS.fresh 16 64) (n := n) (l := l) hn hl rfl (by show (-1 : Int) ≠ 0; omega)
  have ok1 : ((DS.fresh 16 64).write n l).2.Ok := DS.write_ok_ ok0 (by show 0 + 1 ≤ 1000000; omega)
  have b1 := write_block (d := DS.fresh 16 64) (n := n) (l := l) ok0 hn hl rfl (by show (-1 : Int) ≠ 0; omega)
  have f1 : ((DS.fresh 16 64).write n l).2.size = 64 ∧ ((DS.fresh 16 64).write n l).2.nb = 16 ∧ ((DS.fresh 16 64).write n l).2.off = false ∧ ((DS.fresh 16 64).write n l).2.left = -1 ∧ ((DS.fresh 16 64).write n l).2.log.length = 1 := by
    rw [e1]; exact ⟨rfl, rfl, rfl, rfl, rfl⟩
  have h1 : ((DS.fresh 16 64).write n l).1 = 0 := by rw [e1]
  generalize ((DS.fresh 16 64).write n l) = x1 at *
  obtain ⟨r1, d1⟩ := x1
  clear e1
  simp only at *
  obtain ⟨fs, fn, fo, fl, fg⟩ := f1
  have hm2 : 0 ≤ m ∧ m < d1.nb := by rw [fn]; exact hm
  have hl2 : l'.length ≤ d1.size := by rw [fs]; exact hl'
  have hlf2 : d1.left ≠ 0 := by rw [fl]; omega
  have e2 := write_done (d := d1) (n := m) (l := l') hm2 hl2 fo hlf2
  have ok2 : (d1.write m l').2.Ok := DS.write_ok_ ok1 (by rw [fg]; omega)
  have b2 := write_block (d := d1) (n := m) (l := l') ok1 hm2 hl2 fo hlf2
  refine ⟨h1, by rw [e2], ok1, ok2, fun i hi => ?_⟩
  rw [read_done (by rw [e2]; show 0 ≤ (i : Int) ∧ (i : Int) < d1.nb; rw [fn]; omega) (by rw [e2]; exact fo)]
  rw [Int.toNat_natCast, b2 i (by rw [fn]; exact hi), b1 i hi, fresh_block 16 64 i hi, fs]
  unfold wantAt
  split
  · rfl
  · split <;> rfl

theorem padB_at {x : List UInt8} {k : Nat} (hk : k < (padB 64 x).length) (h : k < x.length) : (padB 64 x)[k] = x[k] := by
  simp [padB, List.getElem_append_left h]
theorem padB_past {x : List UInt8} {k : Nat} (hk : k < (padB 64 x).length) (h : ¬ k < x.length) : (padB 64 x)[k] = 0 := by
  have h1 : (padB 64 x)[k]? = some 0 := by
    have hl : k - x.length < 64 - x.length := by
      have : (padB 64 x).length = x.length + (64 - x.length) := by simp [padB]
      omega
    unfold padB
    rw [List.getElem?_append_right (by omega), List.getElem?_replicate, if_pos hl]
  rw [List.getElem?_eq_getElem hk] at h1
  exact Option.some.inj h1

set_option maxHeartbeats 600000 in
theorem apart_out (n m : Int) (A B : Option Addr) (k c k' c' : Nat) (w : World) (h : 64 < k ∨ (¬ 64 < k ∧ 64 < k') ∨ (¬ 64 < k ∧ ¬ 64 < k' ∧ n < 0) ∨ (¬ 64 < k ∧ ¬ 64 < k' ∧ ¬ n < 0 ∧ 15 < n) ∨ (¬ 64 < k ∧ ¬ 64 < k' ∧ ¬ n < 0 ∧ ¬ 15 < n ∧ m < 0) ∨ (¬ 64 < k ∧ ¬ 64 < k' ∧ ¬ n < 0 ∧ ¬ 15 < n ∧ ¬ m < 0 ∧ 15 < m)) :
    Calls Try.prog 4 #[.int .i64 n, .slice A k c, .int .i64 m, .slice B k' c'] w (Yes w) := by
  rcases h with h | ⟨h1, h2⟩ | ⟨h1, h2, h3⟩ | ⟨h1, h2, h3, h4⟩ | ⟨h1, h2, h3, h4, h5⟩ | ⟨h1, h2, h3, h4, h5, h6⟩
  all_goals
    go_enter Try.func4, Try.ntmps4
    go_wp2_with (go_at_call 9; refine (live_any w).mono ?_; rintro e w1 ⟨rfl, hb1⟩)
    go_ret
    exact ⟨rfl, hb1⟩

set_option maxHeartbeats 1000000 in
theorem apart_in (n m : Int) (A B : Option Addr) (k c k' c' : Nat) (l l' : List UInt8) (w : World) (hl : l.length = k) (hl' : l'.length = k') (hr : Rd w A l) (hr' : Rd w B l') (h1 : ¬ 64 < k) (h2 : ¬ 64 < k') (h3 : ¬ n < 0) (h4 : ¬ 15 < n) (h5 : ¬ m < 0) (h6 : ¬ 15 < m) :
    Calls Try.prog 4 #[.int .i64 n, .slice A k c, .int .i64 m, .slice B k' c'] w (Yes w) := by
  obtain ⟨z1, z2, ok1, ok2, hrd⟩ := apart_blocks (n := n) (m := m) (l := l) (l' := l') (by omega) (by omega) ⟨by omega, by omega⟩ ⟨by omega, by omega⟩
  have HZ1 := Lib.hid z1
  have HZ2 := Lib.hid z2
  have HRD := Lib.hid hrd
  have HL := Lib.hid hl
  have HL' := Lib.hid hl'
  clear z1 z2 hrd hl hl'
  have ok0 : (DS.fresh 16 64).Ok := DS.fresh_ok (by omega) (by omega) (by omega) (by omega)
  have HN := Lib.hid (new_ok 16 64 w (by omega) (by omega) (by omega) (by omega))
  go_enter Try.func4, Try.ntmps4
  go_upto_region 4 with (go_at_call 10; refine HN.out.mono ?_; rintro e w1 ⟨pd, p, rfl, hD1, hb1, hF1⟩)
  have hO1 : Own w pd p (DS.fresh 16 64) w1 := ⟨hD1, hb1, hF1⟩
  have HW1 := Lib.hid (write_own (n := n) (c := c) hO1 ok0 HL.out (by omega) (hr.below hb1))
  rw [HZ1.out] at HW1
  clear hD1 hb1 hF1
  go_upto_region 6 with (first
    | (go_at_call 11; refine (num_any _ _).mono ?_; rintro e w' ⟨rfl, rfl⟩)
    | (go_at_call 13; (with_reducible refine HW1.out.mono ?_); rintro e w2 ⟨rfl, p2, hO2⟩)
    | (go_at_call 13; have HW2 := Lib.hid (write_own (n := m) (c := c') hO2 ok1 HL'.out (by omega) (hr'.below hO2.bel)); rw [HZ2.out] at HW2; (with_reducible refine HW2.out.mono ?_); rintro e w3 ⟨rfl, p3, hO3⟩))
  generalize (((DS.fresh 16 64).write n l).snd.write m l').snd = D at *
  clear hO1 hO2 HW1 HW2 HZ1 HZ2 ok1 HN
  go_wp2
  go_loopw [11] (fun i wr => ∃ j : Nat, j ≤ 16 ∧ i = .int .i64 j ∧ Own w pd p3 D wr) (fun i _ => 16 - (intOf i).toNat)
  case atStart => exact ⟨0, Nat.zero_le _, rfl, hO3⟩
  case round =>
    obtain ⟨j, hj, rfl, hO⟩ := hrel
    clear hO3
    by_cases hlt : j < 16
    · obtain ⟨x, hx⟩ : ∃ x, x = wantAt n m l l' j := ⟨_, rfl⟩
      have hx64 : x.length ≤ 64 := by rw [hx]; unfold wantAt; split; (rw [HL'.out]; omega); split; (rw [HL.out]; omega); simp
      have hR := HRD.out j hlt
      rw [← hx] at hR
      have HR := Lib.hid (read_own (n := j) hO ok2 hR (padB_len hx64))
      have hst := run_str (P := Try.prog) Try.underlying33 Try.underlying5 Try.underlying9 wr A k c l HL.out (hr.below hO.bel)
      have hst' := run_str (P := Try.prog) Try.underlying33 Try.underlying5 Try.underlying9 wr B k' c' l' HL'.out (hr'.below hO.bel)
      clear hR
      have hways : (((j : Int) == n) = true ∧ ((j : Int) == m) = false ∧ x = l) ∨ (((j : Int) == n) = true ∧ ((j : Int) == m) = true ∧ x = l') ∨ (((j : Int) == n) = false ∧ ((j : Int) == m) = true ∧ x = l') ∨ (((j : Int) == n) = false ∧ ((j : Int) == m) = false ∧ x = []) := by
        unfold wantAt at hx
        by_cases e1 : (j : Int) = n <;> by_cases e2 : (j : Int) = m
        · exact .inr (.inl ⟨by simp [e1], by simp [e2], by rw [hx, if_pos e2]⟩)
        · exact .inl ⟨by simp [e1], by simp [e2], by rw [hx, if_neg e2, if_pos e1]⟩
        · exact .inr (.inr (.inl ⟨by simp [e1], by simp [e2], by rw [hx, if_pos e2]⟩))
        · exact .inr (.inr (.inr ⟨by simp [e1], by simp [e2], by rw [hx, if_neg e2, if_neg e1]⟩))
      clear hx
      rcases hways with ⟨q1, q2, rfl⟩ | ⟨q1, q2, rfl⟩ | ⟨q1, q2, rfl⟩ | ⟨q1, q2, rfl⟩
      rotate_left 3
      · go_upto_region 15 with (go_at_call 15; refine HR.out.mono ?_; rintro e w4 ⟨C, cC, rfl, hrC, hcC, hO4⟩)
        clear hst hst' HR hO q1 q2 HRD hr hr' HL HL'
        obtain ⟨b, off, hC0⟩ : ∃ b off, C = some ⟨b, off, none⟩ := by
          obtain ⟨b, off, h1, _⟩ := hrC.at_ (k := 0) (by rw [padB_len hx64]; omega)
          exact ⟨b, off, h1⟩
        subst hC0
        go_wp2_with (go_at_call 11; refine (num_any _ _).mono ?_; rintro e w' ⟨rfl, rfl⟩)
        go_loop [15] (fun i => ∃ k : Nat, k ≤ 64 ∧ i = .int .i64 k) (fun i => 64 - (intOf i).toNat)
        case atStart => exact ⟨0, Nat.zero_le _, rfl⟩
        case round =>
          obtain ⟨t, ht, rfl⟩ := hrel
          by_cases htl : t < 64
          · have htp : t < (padB 64 []).length := by rw [padB_len hx64]; exact htl
            obtain ⟨b', off', hCe, _, hcell⟩ := hrC.at_ htp
            injection hCe with hCe
            injection hCe with e1 e2
            subst e1 e2
            by_cases htx : t < ([] : List UInt8).length
            · simp at htx
            · rw [padB_past htp htx] at hcell
              clear htp
              go_wp2
              go_round
              case rel => exact ⟨t + 1, by omega, by go_num⟩
              case measure => simp [intOf]; omega
          · go_wp2
            go_roundw
            case rel => exact ⟨j + 1, by omega, by go_num, hO4⟩
            case measure => simp [intOf]; omega
      all_goals
        go_upto_region 15 with (go_at_call 15; refine HR.out.mono ?_; rintro e w4 ⟨C, cC, rfl, hrC, hcC, hO4⟩)
        clear hst hst' HR hO q1 q2 HRD hr hr' HL HL'
        obtain ⟨b, off, hC0⟩ : ∃ b off, C = some ⟨b, off, none⟩ := by
          obtain ⟨b, off, h1, _⟩ := hrC.at_ (k := 0) (by rw [padB_len hx64]; omega)
          exact ⟨b, off, h1⟩
        subst hC0
        go_wp2_with (go_at_call 11; refine (num_any _ _).mono ?_; rintro e w' ⟨rfl, rfl⟩)
        go_loop [15] (fun i => ∃ k : Nat, k ≤ 64 ∧ i = .int .i64 k) (fun i => 64 - (intOf i).toNat)
        case atStart => exact ⟨0, Nat.zero_le _, rfl⟩
        case round =>
          obtain ⟨t, ht, rfl⟩ := hrel
          by_cases htl : t < 64
          · have htp : t < (padB 64 x).length := by rw [padB_len hx64]; exact htl
            obtain ⟨b', off', hCe, _, hcell⟩ := hrC.at_ htp
            injection hCe with hCe
            injection hCe with e1 e2
            subst e1 e2
            by_cases htx : t < x.length
            · rw [padB_at htp htx] at hcell
              have hcell2 : w4.cell? ⟨b, off + t, none⟩ = some (.int .u8 (((⟨x.toArray⟩ : ByteArray)[t]'htx).toNat : Int)) := hcell
              clear htp hcell
              go_wp2
              go_round
              case rel => exact ⟨t + 1, by omega, by go_num⟩
              case measure => simp [intOf]; omega
            · rw [padB_past htp htx] at hcell
              clear htp
              go_wp2
              go_round
              case rel => exact ⟨t + 1, by omega, by go_num⟩
              case measure => simp [intOf]; omega
          · go_wp2
            go_roundw
            case rel => exact ⟨j + 1, by omega, by go_num, hO4⟩
            case measure => simp [intOf]; omega
    · go_wp2_with (go_at_call 9; refine (live_from hO.bel).mono ?_; rintro e w5 ⟨rfl, hb5⟩)
      go_ret
      exact ⟨rfl, hb5⟩

/-- DiskApart at every input. -/
theorem apart_any (n m : Int) (A B : Option Addr) (k c k' c' : Nat) (l l' : List UInt8) (w : World) (hl : l.length = k) (hl' : l'.length = k') (hr : Rd w A l) (hr' : Rd w B l') :
    Calls Try.prog 4 #[.int .i64 n, .slice A k c, .int .i64 m, .slice B k' c'] w (Yes w) := by
  by_cases h : 64 < k ∨ 64 < k' ∨ n < 0 ∨ 15 < n ∨ m < 0 ∨ 15 < m
  · exact apart_out n m A B k c k' c' w (by omega)
  · exact apart_in n m A B k c k' c' l l' w hl hl' hr hr' (by omega) (by omega) (by omega) (by omega) (by omega) (by omega)
end Go.Proofs.Ytclbhhgifjegiaa
