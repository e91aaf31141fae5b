/- The walks of slices.Clone at ints, of Ints (the reference's), of Log. -/
import Derived.Test.YtcnhfbckaacalaaDiskO
namespace Go.Proofs.Ytcnhfbckaacalaa
open Go.RowKit
set_option linter.unusedVariables false

/-- A slice with the address A reads as the ints l. -/
def Rdi (w : World) (A : Option Addr) (l : List Int) : Prop :=
  l = [] ∨ ∃ b off, A = some ⟨b, off, none⟩ ∧ ∀ j, (h : j < l.length) → w.cell? ⟨b, off + j, none⟩ = some (iv l[j])
theorem Rdi.at_ {w : World} {A : Option Addr} {l : List Int} (h : Rdi w A l) {k : Nat} (hk : k < l.length) :
    ∃ b off, A = some ⟨b, off, none⟩ ∧ b < w.heap.size ∧ w.cell? ⟨b, off + k, none⟩ = some (.int .i64 (l[k]'hk)) := by
  rcases h with rfl | ⟨b, off, h1, h2⟩
  · simp at hk
  · exact ⟨b, off, h1, World.block_lt_of_cell? w ⟨b, off + k, none⟩ (h2 k hk), h2 k hk⟩
theorem Rdi.below {w w' : World} {A : Option Addr} {l : List Int} (h : Rdi w A l) (hb : Below w.heap.size w w') : Rdi w' A l := by
  rcases h with rfl | ⟨b, off, h1, h2⟩
  · exact .inl rfl
  · exact .inr ⟨b, off, h1, fun j hj => (hb.cell (World.block_lt_of_cell? w ⟨b, off + j, none⟩ (h2 j hj))).trans (h2 j hj)⟩
theorem Rdi.cs {w : World} {A : Option Addr} {l : List Int} (h : Rdi w A l) : Cs w A (l.map iv) := by
  rcases h with rfl | ⟨b, off, h1, h2⟩
  · exact .inl rfl
  · refine .inr ⟨_, h1, fun j u hu => ?_⟩
    rw [List.getElem?_map] at hu
    obtain ⟨c, hc, rfl⟩ := Option.map_eq_some_iff.1 hu
    obtain ⟨hj, rfl⟩ := List.getElem?_eq_some_iff.1 hc
    rw [Addr.add_lit]
    exact h2 j hj
theorem own_rdi {w : World} {base e : Nat} {v : Value} {n : Nat} {l : List Int} (h : w.ownsRow base e 1 v n (l.map iv)) : ∃ A c, v = .slice A n c ∧ Rdi w A l ∧ l.length = n ∧ n ≤ c := by
  have hl : l.length = n := by have := h.1; simpa using this
  rcases h.2 with ⟨rfl, rfl⟩ | ⟨g, cap, cur, rfl, _, hg, hnc, _, _, htake⟩
  · exact ⟨none, 0, rfl, .inl (List.eq_nil_of_length_eq_zero hl), hl, Nat.le_refl _⟩
  · refine ⟨_, cap, rfl, .inr ⟨g, 0, rfl, fun j hj => ?_⟩, hl, hnc⟩
    have hc := h.cells (g := g) rfl j (iv l[j]) (by simp [hj])
    rwa [Addr.add_lit] at hc
theorem ivs_one (l : List Int) : ∀ u ∈ l.map iv, u.oneCell' = true := by
  intro u hu
  obtain ⟨c, _, rfl⟩ := List.mem_map.1 hu
  rfl

set_option maxHeartbeats 400000 in
theorem clonei_none (n c : Nat) (w : World) :
    Calls Try.prog 47 #[.slice none n c] w fun e w' => e = .returned (.slice none 0 0) ∧ w = w' := by
  have hq := fun w => Lib.run_eql_slice_nil (P := Try.prog) w 37 3 none n c 0 0 Try.underlying37
  go_enter Try.func47, Try.ntmps47
  go_wp2
  go_ret
  exact ⟨rfl, rfl⟩

set_option maxHeartbeats 400000 in
theorem clonei_some (a : Addr) (l : List Int) (n c : Nat) (w : World) (hl : l.length = n) (hn : n ≤ 17592186044416) (h : Rdi w (some a) l) :
    Calls Try.prog 47 #[.slice (some a) n c] w fun e w' => ∃ v, e = .returned v ∧ w'.ownsRow w.heap.size 3 1 v n (l.map iv) ∧ Below w.heap.size w w' := by
  have hq := fun w => Lib.run_eql_slice_nil (P := Try.prog) w 37 3 (some a) n c 0 0 Try.underlying37
  have HL := Lib.hid hl
  clear hl
  go_enter Try.func47, Try.ntmps47
  go_wp2_with (at_builtin; refine wpList_app intsT rfl (.tmp 5) (.tmp 6) rfl w.heap.size _ 0 [] rfl (World.ownsRow_lit w #[] 0 (Nat.le_refl _) (Nat.zero_le _) rfl) (some a) n c (l.map iv) rfl ?_ (h.below (below_alloc _ _)).cs (ivs_one l) ?_ ?_ (by simp) ?_)
  · simp [HL.out]
  · simp only [maxLen]; omega
  · omega
  · intro v' w' hown hgr _
    go_wp2
    go_ret
    exact ⟨v', rfl, by simpa using hown, (below_alloc w _).grown hgr (by simp) (by simp [Value.ownBlock])⟩

theorem clonei_any (A : Option Addr) (l : List Int) (n c : Nat) (w : World) (hl : l.length = n) (hn : n ≤ 17592186044416) (h : Rdi w A l) :
    Calls Try.prog 47 #[.slice A n c] w fun e w' => ∃ v, e = .returned v ∧ w'.ownsRow w.heap.size 3 1 v n (l.map iv) ∧ Below w.heap.size w w' := by
  rcases A with _ | a
  · have hz : l = [] := by
      rcases h with h | ⟨_, _, h, _⟩
      · exact h
      · cases h
    subst hz
    simp at hl
    subst hl
    exact (clonei_none 0 c w).mono fun e w' ⟨he, hw⟩ => ⟨_, he, by subst hw; exact World.ownsRow_nil w _ _ _, by subst hw; exact Below.refl _ _⟩
  · exact clonei_some a l n c w hl hn h

set_option maxHeartbeats 400000 in
/-- Log. -/
theorem log_any {pd : Nat} {p : Pl} {d : DS} {w : World} (h : DiskAt pd p d w) (ok : d.Ok) :
    Calls Try.prog 16 #[.pointer (some ⟨pd, 0, none⟩)] w fun e w' => ∃ v, e = .returned v ∧ w'.ownsRow w.heap.size 3 1 v d.log.length (d.log.map iv) ∧ Below w.heap.size w w' := by
  obtain ⟨c0, c1, c2, c3, c4⟩ := h.cells
  obtain ⟨A, cA, hv, hr, _, _⟩ := own_rdi h.log
  rw [hv] at c2
  have hlg := ok.lg
  have HC := Lib.hid (clonei_any A d.log d.log.length cA w rfl (by omega) hr)
  clear hv hr
  go_enter Try.func16, Try.ntmps16
  go_wp2_with (go_at_call 47; refine HC.out.mono ?_; rintro e w1 ⟨v, rfl, hown, hb1⟩)
  go_ret
  exact ⟨v, rfl, hown, hb1⟩

set_option maxHeartbeats 400000 in
/-- Ints, whatever slices. -/
theorem ints_any (A B : Option Addr) (l m : List Int) (n c n' c' : Nat) (w : World) (hl : l.length = n) (hm : m.length = n') (hn : n ≤ 140737488351232) (hn' : n' ≤ 140737488351232) (h : Rdi w A l) (h' : Rdi w B m) :
    Calls Try.prog 61 #[.slice A n c, .slice B n' c'] w fun e w' => e = .returned (.bool (decide (l = m))) ∧ ∃ k, w' = w.drewN k := by
  have HL := Lib.hid hl
  have HM := Lib.hid hm
  clear hl hm
  by_cases hne : n = n'
  · obtain rfl := hne
    have hb : ((n : Int) != n) = false := by simp
    go_enter Try.func61, Try.ntmps61
    go_wp2
    go_loopw [5] (fun i wr => ∃ k : Nat, k ≤ n ∧ i = .int .i64 k ∧ l.take k = m.take k ∧ ∃ q, wr = w.drewN q) (fun i _ => n - (intOf i).toNat)
    case atStart => exact ⟨0, Nat.zero_le _, rfl, by simp, 0, rfl⟩
    case round =>
      obtain ⟨k, hk, rfl, hpre, q, rfl⟩ := hrel
      have HP := Lib.hid hpre
      clear hpre
      by_cases hlt : k < n
      · have hkl : k < l.length := by rw [HL.out]; exact hlt
        have hkm : k < m.length := by rw [HM.out]; exact hlt
        obtain ⟨b, off, rfl, _, hc⟩ := h.at_ hkl
        obtain ⟨b', off', rfl, _, hc'⟩ := h'.at_ hkm
        have Hl := Lib.hid (List.take_succ_eq_append_getElem hkl)
        have Hm := Lib.hid (List.take_succ_eq_append_getElem hkm)
        by_cases hce : l[k] = m[k]
        · have HE := Lib.hid hce
          have hbb : (l[k] != m[k]) = false := by simp [hce]
          clear hce
          generalize l[k] = x at *
          generalize m[k] = y at *
          go_wp2
          go_quiet (fail)
          go_wp2
          go_roundw
          case rel => exact ⟨k + 1, by omega, by go_num, by rw [Hl.out, Hm.out, HP.out, HE.out], _, by first | rfl | exact World.drewN_drewN _ _ _⟩
          case measure => simp [intOf]; omega
        · have hbb : (l[k] != m[k]) = true := by rw [bne_iff_ne]; exact hce
          have HF := Lib.hid (show decide (l = m) = false by
            rw [decide_eq_false_iff_not]; intro e; subst e; exact hce rfl)
          clear hce
          generalize l[k] = x at *
          generalize m[k] = y at *
          go_wp2
          go_quiet (fail)
          go_wp2
          go_ret
          exact ⟨by rw [HF.out]; rfl, _, by first | rfl | exact World.drewN_drewN _ _ _⟩
      · have HF := Lib.hid (show decide (l = m) = true by
          rw [decide_eq_true_eq]
          have h1 := HP.out
          rw [List.take_of_length_le (by rw [HL.out]; omega), List.take_of_length_le (by rw [HM.out]; omega)] at h1
          exact h1)
        go_wp2
        go_ret
        exact ⟨by rw [HF.out]; rfl, _, rfl⟩
  · have hb : ((n : Int) != n') = true := by rw [bne_iff_ne]; omega
    have HF := Lib.hid (show decide (l = m) = false by
      rw [decide_eq_false_iff_not]; intro e; subst e; exact hne (HL.out.symm.trans HM.out))
    clear hne
    go_enter Try.func61, Try.ntmps61
    go_wp2
    go_ret
    exact ⟨by rw [HF.out]; rfl, 0, rfl⟩
end Go.Proofs.Ytcnhfbckaacalaa
