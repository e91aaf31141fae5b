/- The walk of EncodeBack. -/
import Derived.Test.YtommadcjemljcaaEncX
namespace Go.Proofs.Ytommadcjemljcaa
open Go.RowKit
set_option linter.unusedVariables false

mutual
theorem named_isT : ∀ t : TV, t.isT = true → t.named
  | .mk k n s l, h => by
    simp only [TV.isT, Bool.and_eq_true] at h
    have hc := head_cases h.1
    simp only [TV.named]
    refine ⟨?_, named_isL l h.2⟩
    rcases hc with h | h | h | h | h | h | h
    · rw [h.2.2.2.2]; simp
    · omega
    · rw [h.2.2.2.2]; simp
    · rw [h.2.2.2]; simp
    · rw [h.2.2]; simp
    · rw [h.2.2.2]; simp
    · rw [h.2.2.2]; simp
theorem named_isL : ∀ l : List TV, TV.isL l = true → TV.namedL l
  | [], _ => by simp [TV.namedL]
  | t :: r, h => by
    simp only [TV.isL, Bool.and_eq_true] at h
    simp only [TV.namedL]
    exact ⟨named_isT t h.1, named_isL r h.2⟩
end
theorem rcheck_num {l : List TV} {A : Option Addr} {len c ck : Nat} {W : World} (hlen : l.length = len) (hnm : TV.namedL l) (hR : RdM W A c l) (hk : checkP l = ck) :
    Calls Try.prog 14 #[.slice A len c] W fun e w' => e = .returned (.int .i64 (ck : Nat)) ∧ Below W.heap.size W w' := by
  rw [← hk]
  exact rcheck_any l A len c W W hlen hnm (Below.refl _ _) hR

set_option maxRecDepth 100000 in
set_option maxHeartbeats 4000000 in
theorem eback_in (l : List TV) (b : List UInt8) (A A2 : Option Addr) (len c n2 c2 : Nat) (w : World) (hlen : l.length = len) (hnm : TV.namedL l) (hR : RdM w A c l) (h1 : len ≤ 5000) (hl2 : b.length = n2) (hn2 : n2 ≤ 20000) (hr2 : Rd w A2 b) :
    Calls Try.prog 4 #[.slice A len c, .slice A2 n2 c2] w (Yes w) := by
  have hd5 : decide (5000 < len) = false := by simp; omega
  have hd6 : decide (20000 < n2) = false := by simp; omega
  have HLEN := Lib.hid hlen
  have HL2 := Lib.hid hl2
  have HNM := Lib.hid hnm
  have HR := Lib.hid hR
  have HRB := Lib.hid hr2
  have hways : (∃ ys, checkP ys = 0 ∧ putB ys = b) ∨ ∀ ys, checkP ys = 0 → putB ys ≠ b := by
    by_cases h : ∃ ys, checkP ys = 0 ∧ putB ys = b
    · exact .inl h
    · exact .inr fun ys h1 h2 => h ⟨ys, h1, h2⟩
  by_cases hk : checkP l = 0
  · have HPUT := Lib.hid (put_yes hlen hnm hR hk)
    have hpl := putB_len hk
    have HK := Lib.hid hk
    obtain ⟨x, hx⟩ : ∃ x, putB l = x := ⟨_, rfl⟩
    have HX := Lib.hid hx
    rw [hx] at HPUT hpl
    clear hlen hnm hR hk hx hl2 hr2
    go_enter Try.func4, Try.ntmps4
    go_upto_region 4 with (go_at_call 8; refine HPUT.out.mono ?_; rintro r V1 ⟨A3, z, c3, hzl, hz1, hz2, rfl, hr3, hb1⟩; have HZ : Hid (z ≤ 2000000 ∧ x.length = z) := ⟨by omega, hzl.symm⟩; clear hzl)
    refine wp_world (fun V => Below w.heap.size w V ∧ Rd V A3 x) ⟨hb1, hr3⟩ ?_
    clear hb1 hr3 HPUT hpl
    rintro V2 ⟨hb2, hr3⟩
    have HCK := Lib.hid (rcheck_num HLEN.out HNM.out (HR.out.below hb2) HK.out)
    have HR3 := Lib.hid (And.intro hb2 hr3)
    clear hr3 hb2
    go_upto_region 7 with (first
      | (go_at_call 12; refine (num_any _ _).mono ?_; rintro e w' ⟨rfl, rfl⟩)
      | (go_at_call 14; refine HCK.out.mono ?_; rintro r V3 ⟨rfl, hb3⟩))
    clear HCK
    have HGET := Lib.hid (get_yes (n := z) (c := c3) HZ.out.2 (by have := HZ.out.1; omega) (HR3.out.2.below hb3) HK.out HX.out)
    have hb3' := below_step HR3.out.1 hb3
    go_upto_region 8 with (go_at_call 10; refine HGET.out.mono ?_; rintro r V4 ⟨A4, c4, rfl, hm4, hb4⟩)
    have hb4' := below_step hb3' hb4
    refine wp_world (fun V => Below w.heap.size w V ∧ RdM V A4 c4 l) ⟨hb4', hm4⟩ ?_
    clear hb3 hb3' hb4 hb4' hm4 HGET HR3
    rintro V5 ⟨hb5, hm5⟩
    have HROWS : Hid (Calls Try.prog 13 #[.slice A4 len c4, .slice A len c] V5 fun e w' => e = .returned (.bool true) ∧ Below V5.heap.size V5 w') :=
      (rows_any l l A4 len c4 A len c V5 V5 HLEN.out HLEN.out (Below.refl _ _) hm5 (HR.out.below hb5)).mono fun e w' ⟨he, h⟩ => ⟨by rw [he, rowsB_self], h⟩
    rw [HLEN.out]
    clear hm5
    go_upto_region 10 with (first
      | (go_at_call 12; refine (num_any _ _).mono ?_; rintro e w' ⟨rfl, rfl⟩)
      | (go_at_call 13; refine HROWS.out.mono ?_; rintro e V6 ⟨rfl, hb6⟩))
    refine wp_world (fun V => Below w.heap.size w V) (below_step hb5 hb6) ?_
    clear hb5 hb6 HROWS
    intro V6 hb6
    rcases hways with ⟨ys, hy, hyb⟩ | hno
    · obtain ⟨ny, hny⟩ : ∃ ny, ys.length = ny := ⟨_, rfl⟩
      have HGET := Lib.hid (get_yes (W := V6) (n := n2) (c := c2) HL2.out (by omega) (HRB.out.below hb6) hy hyb)
      rw [hny] at HGET
      have HNY := Lib.hid hny
      have HY := Lib.hid hy
      have HNMY := Lib.hid (named_isL _ (check_ok hy).2)
      have HYB := Lib.hid hyb
      clear hny hy hyb
      go_upto_region 11 with (go_at_call 10; refine HGET.out.mono ?_; rintro r V7 ⟨A7, c7, rfl, hm7, hb7⟩)
      refine wp_world (fun V => Below w.heap.size w V ∧ RdM V A7 c7 ys) ⟨below_step hb6 hb7, hm7⟩ ?_
      clear hb6 hb7 hm7 HGET
      rintro V8 ⟨hb8, hm8⟩
      have HPUT := Lib.hid (put_yes HNY.out HNMY.out hm8 HY.out)
      rw [HYB.out] at HPUT
      go_upto_region 14 with (first
        | (go_at_call 12; refine (num_any _ _).mono ?_; rintro e w' ⟨rfl, rfl⟩)
        | (go_at_call 8; refine HPUT.out.mono ?_; rintro r V9 ⟨A9, z9, c9, hzl, hz1, hz2, rfl, hr9, hb9⟩; have hz9 : z9 = n2 := (by rw [hzl, HL2.out]); clear hzl; subst hz9))
      refine wp_world (fun V => Below w.heap.size w V ∧ RdM V A7 c7 ys ∧ Rd V A9 b) ⟨below_step hb8 hb9, hm8.below hb9, hr9⟩ ?_
      clear hb8 hm8 hb9 hr9 HPUT
      rintro X ⟨hbX, hmX, hrX⟩
      have hst1 := run_str (P := Try.prog) Try.underlying23 Try.underlying5 Try.underlying9 X A9 _ c9 b HL2.out hrX
      have hst2 := run_str (P := Try.prog) Try.underlying23 Try.underlying5 Try.underlying9 X A2 _ c2 b HL2.out (HRB.out.below hbX)
      have HCK := Lib.hid (rcheck_num HNY.out HNMY.out hmX HY.out)
      have HBX := Lib.hid hbX
      clear hrX hmX hbX
      go_wp2_with (first
        | (go_at_call 12; refine (num_any _ _).mono ?_; rintro e w' ⟨rfl, rfl⟩)
        | (go_at_call 14; refine HCK.out.mono ?_; rintro r Y1 ⟨rfl, hbY⟩)
        | (go_at_call 7; refine (live_from (below_step HBX.out hbY)).mono ?_; rintro e Y2 ⟨rfl, hbZ⟩))
      go_ret
      exact ⟨rfl, hbZ⟩
    · have HGET := Lib.hid (get_no (W := V6) (n := n2) (c := c2) HL2.out (by omega) (HRB.out.below hb6) hno)
      clear hno
      go_wp2_with (first
        | (go_at_call 10; refine HGET.out.mono ?_; rintro r V7 ⟨rfl, hb7⟩)
        | (go_at_call 12; refine (num_any _ _).mono ?_; rintro e w' ⟨rfl, rfl⟩)
        | (go_at_call 7; refine (live_from (below_step hb6 hb7)).mono ?_; rintro e Y2 ⟨rfl, hbZ⟩))
      go_ret
      exact ⟨rfl, hbZ⟩
  · have HPUT := Lib.hid (put_no hlen hnm hR hk)
    obtain ⟨ck, hcke⟩ : ∃ ck, checkP l = ck := ⟨_, rfl⟩
    rw [hcke] at HPUT hk
    have hd : ((ck : Int) != 0) = true := by rw [bne_iff_ne]; omega
    have hd3 : ((ck : Int) == 0) = false := by simp only [beq_eq_false_iff_ne]; omega
    have HK := Lib.hid hcke
    clear hlen hnm hR hk hcke hl2 hr2
    go_enter Try.func4, Try.ntmps4
    go_upto_region 4 with (go_at_call 8; refine HPUT.out.mono ?_; rintro r V1 ⟨rfl, hb1⟩)
    have HCK := Lib.hid (rcheck_num HLEN.out HNM.out (HR.out.below hb1) HK.out)
    go_upto_region 10 with (first
      | (go_at_call 12; refine (num_any _ _).mono ?_; rintro e w' ⟨rfl, rfl⟩)
      | (go_at_call 14; refine HCK.out.mono ?_; rintro r V3 ⟨rfl, hb3⟩))
    refine wp_world (fun V => Below w.heap.size w V) (below_step hb1 hb3) ?_
    clear hb1 hb3 HPUT HCK
    intro V6 hb6
    rcases hways with ⟨ys, hy, hyb⟩ | hno
    · obtain ⟨ny, hny⟩ : ∃ ny, ys.length = ny := ⟨_, rfl⟩
      have HGET := Lib.hid (get_yes (W := V6) (n := n2) (c := c2) HL2.out (by omega) (HRB.out.below hb6) hy hyb)
      rw [hny] at HGET
      have HNY := Lib.hid hny
      have HY := Lib.hid hy
      have HNMY := Lib.hid (named_isL _ (check_ok hy).2)
      have HYB := Lib.hid hyb
      clear hny hy hyb
      go_upto_region 11 with (go_at_call 10; refine HGET.out.mono ?_; rintro r V7 ⟨A7, c7, rfl, hm7, hb7⟩)
      refine wp_world (fun V => Below w.heap.size w V ∧ RdM V A7 c7 ys) ⟨below_step hb6 hb7, hm7⟩ ?_
      clear hb6 hb7 hm7 HGET
      rintro V8 ⟨hb8, hm8⟩
      have HPUT := Lib.hid (put_yes HNY.out HNMY.out hm8 HY.out)
      rw [HYB.out] at HPUT
      go_upto_region 14 with (first
        | (go_at_call 12; refine (num_any _ _).mono ?_; rintro e w' ⟨rfl, rfl⟩)
        | (go_at_call 8; refine HPUT.out.mono ?_; rintro r V9 ⟨A9, z9, c9, hzl, hz1, hz2, rfl, hr9, hb9⟩; have hz9 : z9 = n2 := (by rw [hzl, HL2.out]); clear hzl; subst hz9))
      refine wp_world (fun V => Below w.heap.size w V ∧ RdM V A7 c7 ys ∧ Rd V A9 b) ⟨below_step hb8 hb9, hm8.below hb9, hr9⟩ ?_
      clear hb8 hm8 hb9 hr9 HPUT
      rintro X ⟨hbX, hmX, hrX⟩
      have hst1 := run_str (P := Try.prog) Try.underlying23 Try.underlying5 Try.underlying9 X A9 _ c9 b HL2.out hrX
      have hst2 := run_str (P := Try.prog) Try.underlying23 Try.underlying5 Try.underlying9 X A2 _ c2 b HL2.out (HRB.out.below hbX)
      have HCK := Lib.hid (rcheck_num HNY.out HNMY.out hmX HY.out)
      have HBX := Lib.hid hbX
      clear hrX hmX hbX
      go_wp2_with (first
        | (go_at_call 12; refine (num_any _ _).mono ?_; rintro e w' ⟨rfl, rfl⟩)
        | (go_at_call 14; refine HCK.out.mono ?_; rintro r Y1 ⟨rfl, hbY⟩)
        | (go_at_call 7; refine (live_from (below_step HBX.out hbY)).mono ?_; rintro e Y2 ⟨rfl, hbZ⟩))
      go_ret
      exact ⟨rfl, hbZ⟩
    · have HGET := Lib.hid (get_no (W := V6) (n := n2) (c := c2) HL2.out (by omega) (HRB.out.below hb6) hno)
      clear hno
      go_wp2_with (first
        | (go_at_call 10; refine HGET.out.mono ?_; rintro r V7 ⟨rfl, hb7⟩)
        | (go_at_call 12; refine (num_any _ _).mono ?_; rintro e w' ⟨rfl, rfl⟩)
        | (go_at_call 7; refine (live_from (below_step hb6 hb7)).mono ?_; rintro e Y2 ⟨rfl, hbZ⟩))
      go_ret
      exact ⟨rfl, hbZ⟩

set_option maxRecDepth 100000 in
set_option maxHeartbeats 2000000 in
theorem eback_any (l : List TV) (b : List UInt8) (A A2 : Option Addr) (len c n2 c2 : Nat) (w : World) (hlen : l.length = len) (hnm : TV.namedL l) (hR : RdM w A c l) (hl2 : b.length = n2) (hc2 : n2 ≤ c2) (hcm2 : c2 ≤ 9223372036854775807) (hr2 : Rd w A2 b) :
    Calls Try.prog 4 #[.slice A len c, .slice A2 n2 c2] w (Yes w) := by
  have hlc : len ≤ 9223372036854775807 := by have := hR.1; have := hR.2.1; omega
  by_cases h1 : 5000 < len
  · have hd5 : decide (5000 < len) = true := by simpa using h1
    clear hlen hnm hR
    go_enter Try.func4, Try.ntmps4
    go_wp2_with (go_at_call 7; refine (live_any w).mono ?_; rintro e w9 ⟨rfl, hb9⟩)
    go_ret
    exact ⟨rfl, hb9⟩
  by_cases h2 : 20000 < n2
  · have hd5 : decide (5000 < len) = false := by simpa using h1
    have hd6 : decide (20000 < n2) = true := by simpa using h2
    clear hlen hnm hR
    go_enter Try.func4, Try.ntmps4
    go_wp2_with (go_at_call 7; refine (live_any w).mono ?_; rintro e w9 ⟨rfl, hb9⟩)
    go_ret
    exact ⟨rfl, hb9⟩
  exact eback_in l b A A2 len c n2 c2 w hlen hnm hR (by omega) hl2 (by omega) hr2
end Go.Proofs.Ytommadcjemljcaa
