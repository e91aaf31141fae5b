/- The walks of the reference disk's functions, gone on with. -/
import Derived.Test.YtclbhhgifjegiaaRefD
import Derived.Lib.AppendZerosOnto
import Derived.Lib.EndianMore
namespace Go.Proofs.Ytclbhhgifjegiaa
open Go.RowKit
set_option linter.unusedVariables false
attribute [local go_sem ↓] Go.wp_at_zero Go.wp_at_succ

section
variable {pr : Nat} {q : RPl} {r : RS} {w w' : World} {n : Int} {p : List UInt8}

set_option maxHeartbeats 1000000 in
theorem rwrite_ok (h : RefAt pr q r w) (ok : r.Ok) (hp : p.length ≤ 140737488351232) (h1 : ¬ (n < 0 ∨ (r.n : Int) ≤ n)) (h2 : ¬ r.size < p.length) (ho : r.off = false) (hl : r.left ≠ 0) :
    Calls Try.prog 19 #[.pointer (some ⟨pr, 0, none⟩), .int .i64 n, .string ⟨p.toArray⟩] w (RWriteEnds w pr q r n p) := by
  have HW := Lib.hid (show r.write n p = (0, { r with left := if 0 < r.left then r.left - 1 else r.left, b := r.b.set n.toNat p, w := r.w ++ [n] }) by unfold RS.write; rw [if_neg h1, if_neg h2, if_neg (by rw [ho]; simp [hl])])
  obtain ⟨N, rfl⟩ := Int.eq_ofNat_of_zero_le (show 0 ≤ n by omega)
  have hN : N < r.n := by omega
  have hd : decide ((r.n : Int) ≤ (N : Int)) = false := by simp; omega
  have hd' : decide (r.n ≤ N) = false := by simp; omega
  have hd3 : decide (r.size < p.length) = false := by simpa using h2
  have hq0 : (r.left == 0) = false := by simp [hl]
  obtain ⟨c0, c1, c2, c3, c4, c5⟩ := h.cells
  rw [ho] at c5
  have f4 := h.obj.frozen 4
  have hl1 := ok.l1
  have hl2 := ok.l2
  have hn2 := ok.n2
  clear ho hl h1 h2
  obtain ⟨R1, hR1⟩ : ∃ R, R = ({ r with left := if 0 < r.left then r.left - 1 else r.left } : RS) := ⟨_, rfl⟩
  have e1 : R1.n = r.n ∧ R1.b = r.b ∧ R1.w = r.w := by subst hR1; exact ⟨rfl, rfl, rfl⟩
  go_enter Try.func19, Try.ntmps19
  have HR1 := Lib.hid hR1
  have HE1 := Lib.hid e1
  clear hR1 e1
  by_cases hpos : 0 < r.left
  · have HF : Hid (RefAt pr q R1 (w.setCell ⟨pr, 4, none⟩ (.int .i64 (r.left - 1))) ∧ Fr (q.F pr) w (w.setCell ⟨pr, 4, none⟩ (.int .i64 (r.left - 1)))) :=
      ⟨by have := h.setLeft (r.left - 1); rw [HR1.out, if_pos hpos]; exact this, Fr.setCell _ _ (fun _ => .inl rfl) _⟩
    go_upto_region 10 with (fail)
    refine wp_world (fun W => RefAt pr q R1 W ∧ Fr (q.F pr) w W) HF.out ?_
    clear HF
    rintro w3 ⟨hR3, hfr3⟩
    clear c0 c1 c2 c3 c4 c5 f4
    obtain ⟨c0, c1, c2, c3, c4, c5⟩ := hR3.cells
    rw [HE1.out.1] at c2
    have hcl : w3.cell? ⟨q.gb, N, none⟩ = some (sv (r.b[N]'(by rw [ok.len]; exact hN))) := by
      rw [hR3.row.cell, HE1.out.2.1]
      simp [ok.len, hN]
    have hfz := hR3.row.frozen N
    go_upto_region 11 with (fail)
    have hR4 := hR3.setB N p
    have hfr4 := hfr3.trans (Fr.setCell (q.F pr) w3 (p := ⟨q.gb, N, none⟩) (fun _ => .inr (.inl rfl)) (sv p)) (fun _ _ g => g)
    refine wp_world (fun W => RefAt pr q { R1 with b := R1.b.set N p } W ∧ Fr (q.F pr) w W) ⟨hR4, hfr4⟩ ?_
    clear hR3 hfr3 hR4 hfr4 c0 c1 c2 c3 c4 c5 hcl hfz
    rintro w8 ⟨hD8, hfr8⟩
    have HFin := Lib.hid (show (r.write (N : Int) p) = (0, { ({ R1 with b := R1.b.set N p } : RS) with w := ({ R1 with b := R1.b.set N p } : RS).w ++ [(N : Int)] }) by
      rw [HW.out, HR1.out]; rfl)
    have hlog : ({ R1 with b := R1.b.set N p } : RS).w.length ≤ 1000000 := by
      show R1.w.length ≤ _
      rw [HE1.out.2.2]
      exact ok.lg
    generalize ({ R1 with b := R1.b.set N p } : RS) = D8 at *
    obtain ⟨c0, c1, c2, c3, c4, c5⟩ := hD8.cells
    have HD8 := Lib.hid (hD8.keep (below_alloc w8 (.cells #[.int .i64 (N : Int)] 3)))
    have hfr9 := hfr8.trans (Fr.alloc (q.F pr) w8 (.cells #[.int .i64 (N : Int)] 3)) (fun _ _ g => g)
    have HFR := Lib.hid hfr9
    clear hfr8 hfr9
    have HCS : Hid (Cs (w8.alloc (.cells #[.int .i64 (N : Int)] 3)) (some ⟨w8.heap.size, 0, none⟩) [iv N]) := .inr ⟨_, rfl, cell_one_new w8 (.int .i64 (N : Int)) 3⟩
    have hmx : D8.w.length + 1 ≤ maxLen := by simp only [maxLen]; omega
    have hbx : (D8.w.length + 1) * 8 ≤ 140737488355328 := by omega
    have hone : ∀ u ∈ [iv N], u.oneCell' = true := by intro u hu; simp at hu; subst hu; rfl
    go_upto_region 12 with (at_builtin; (with_reducible refine wpList_app intsT rfl (.tmp 64) (.tmp 66) rfl 0 q.lv D8.w.length (D8.w.map iv) rfl HD8.out.log (some ⟨w8.heap.size, 0, none⟩) 1 1 [iv N] rfl rfl HCS.out hone hmx hbx (Nat.zero_le _) ?_); intro v' w9 hown9 hgr9 hat9; obtain ⟨g9, cap9, hv9, _, _⟩ := hown9.form (by omega); subst hv9; have hob := HD8.out.obj.grown hgr9 (by intro e; exact (HD8.out.ne_lv pr e.symm).1 rfl); have d2 := hob.cell 3; have f2 := hob.frozen 3)
    have HL9 := Lib.hid (HD8.out.setLog hown9 hgr9 hat9)
    have HFR9 := Lib.hid ((HFR.out.trans (Fr.of_grown hgr9 (F := q.F pr) (fun k hk _ => .inr (.inr hk))) (fun _ _ g => g)).trans (Fr.setCell (q.F pr) w9 (p := ⟨pr, 3, none⟩) (fun _ => .inl rfl) (.slice (some ⟨g9, 0, none⟩) (D8.w.length + 1) cap9)) (fun _ _ g => g))
    have HGB := Lib.hid (show ∀ k, RPl.F pr { q with lv := .slice (some ⟨g9, 0, none⟩) (D8.w.length + 1) cap9 } k → q.F pr k ∨ w.heap.size ≤ k from by
      have hsz8 := HFR.out.size
      rintro k (h1 | h1 | h1)
      · exact .inl (.inl h1)
      · exact .inl (.inr (.inl h1))
      · rcases hat9 with h2 | h2
        · exact .inl (.inr (.inr (h2.symm.trans h1)))
        · rw [h2] at h1; injection h1 with h1; exact .inr (by omega))
    clear hown9 hgr9 hat9 hob d2 f2
    go_wp2
    go_ret
    refine ⟨by rw [HFin.out]; rfl, { q with lv := .slice (some ⟨g9, 0, none⟩) (D8.w.length + 1) cap9 }, ?_⟩
    rw [HFin.out]
    exact ⟨HL9.out, HFR9.out, HGB.out⟩
  · have HF : Hid (RefAt pr q R1 w ∧ Fr (q.F pr) w w) := ⟨by rw [HR1.out, if_neg hpos]; exact h, Fr.refl _ _⟩
    go_upto_region 10 with (fail)
    refine wp_world (fun W => RefAt pr q R1 W ∧ Fr (q.F pr) w W) HF.out ?_
    clear HF
    rintro w3 ⟨hR3, hfr3⟩
    clear c0 c1 c2 c3 c4 c5 f4
    obtain ⟨c0, c1, c2, c3, c4, c5⟩ := hR3.cells
    rw [HE1.out.1] at c2
    have hcl : w3.cell? ⟨q.gb, N, none⟩ = some (sv (r.b[N]'(by rw [ok.len]; exact hN))) := by
      rw [hR3.row.cell, HE1.out.2.1]
      simp [ok.len, hN]
    have hfz := hR3.row.frozen N
    go_upto_region 11 with (fail)
    have hR4 := hR3.setB N p
    have hfr4 := hfr3.trans (Fr.setCell (q.F pr) w3 (p := ⟨q.gb, N, none⟩) (fun _ => .inr (.inl rfl)) (sv p)) (fun _ _ g => g)
    refine wp_world (fun W => RefAt pr q { R1 with b := R1.b.set N p } W ∧ Fr (q.F pr) w W) ⟨hR4, hfr4⟩ ?_
    clear hR3 hfr3 hR4 hfr4 c0 c1 c2 c3 c4 c5 hcl hfz
    rintro w8 ⟨hD8, hfr8⟩
    have HFin := Lib.hid (show (r.write (N : Int) p) = (0, { ({ R1 with b := R1.b.set N p } : RS) with w := ({ R1 with b := R1.b.set N p } : RS).w ++ [(N : Int)] }) by
      rw [HW.out, HR1.out]; rfl)
    have hlog : ({ R1 with b := R1.b.set N p } : RS).w.length ≤ 1000000 := by
      show R1.w.length ≤ _
      rw [HE1.out.2.2]
      exact ok.lg
    generalize ({ R1 with b := R1.b.set N p } : RS) = D8 at *
    obtain ⟨c0, c1, c2, c3, c4, c5⟩ := hD8.cells
    have HD8 := Lib.hid (hD8.keep (below_alloc w8 (.cells #[.int .i64 (N : Int)] 3)))
    have hfr9 := hfr8.trans (Fr.alloc (q.F pr) w8 (.cells #[.int .i64 (N : Int)] 3)) (fun _ _ g => g)
    have HFR := Lib.hid hfr9
    clear hfr8 hfr9
    have HCS : Hid (Cs (w8.alloc (.cells #[.int .i64 (N : Int)] 3)) (some ⟨w8.heap.size, 0, none⟩) [iv N]) := .inr ⟨_, rfl, cell_one_new w8 (.int .i64 (N : Int)) 3⟩
    have hmx : D8.w.length + 1 ≤ maxLen := by simp only [maxLen]; omega
    have hbx : (D8.w.length + 1) * 8 ≤ 140737488355328 := by omega
    have hone : ∀ u ∈ [iv N], u.oneCell' = true := by intro u hu; simp at hu; subst hu; rfl
    go_upto_region 12 with (at_builtin; (with_reducible refine wpList_app intsT rfl (.tmp 64) (.tmp 66) rfl 0 q.lv D8.w.length (D8.w.map iv) rfl HD8.out.log (some ⟨w8.heap.size, 0, none⟩) 1 1 [iv N] rfl rfl HCS.out hone hmx hbx (Nat.zero_le _) ?_); intro v' w9 hown9 hgr9 hat9; obtain ⟨g9, cap9, hv9, _, _⟩ := hown9.form (by omega); subst hv9; have hob := HD8.out.obj.grown hgr9 (by intro e; exact (HD8.out.ne_lv pr e.symm).1 rfl); have d2 := hob.cell 3; have f2 := hob.frozen 3)
    have HL9 := Lib.hid (HD8.out.setLog hown9 hgr9 hat9)
    have HFR9 := Lib.hid ((HFR.out.trans (Fr.of_grown hgr9 (F := q.F pr) (fun k hk _ => .inr (.inr hk))) (fun _ _ g => g)).trans (Fr.setCell (q.F pr) w9 (p := ⟨pr, 3, none⟩) (fun _ => .inl rfl) (.slice (some ⟨g9, 0, none⟩) (D8.w.length + 1) cap9)) (fun _ _ g => g))
    have HGB := Lib.hid (show ∀ k, RPl.F pr { q with lv := .slice (some ⟨g9, 0, none⟩) (D8.w.length + 1) cap9 } k → q.F pr k ∨ w.heap.size ≤ k from by
      have hsz8 := HFR.out.size
      rintro k (h1 | h1 | h1)
      · exact .inl (.inl h1)
      · exact .inl (.inr (.inl h1))
      · rcases hat9 with h2 | h2
        · exact .inl (.inr (.inr (h2.symm.trans h1)))
        · rw [h2] at h1; injection h1 with h1; exact .inr (by omega))
    clear hown9 hgr9 hat9 hob d2 f2
    go_wp2
    go_ret
    refine ⟨by rw [HFin.out]; rfl, { q with lv := .slice (some ⟨g9, 0, none⟩) (D8.w.length + 1) cap9 }, ?_⟩
    rw [HFin.out]
    exact ⟨HL9.out, HFR9.out, HGB.out⟩
end
end Go.Proofs.Ytclbhhgifjegiaa
