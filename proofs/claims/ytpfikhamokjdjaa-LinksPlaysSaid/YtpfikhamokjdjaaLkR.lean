/- Links (layer 18): the document's Numbers and Watches (are two lists the same?). -/
import Derived.Test.YtpfikhamokjdjaaLkQ
namespace Go.Proofs.Ytpfikhamokjdjaa
open Go.RowKit Go.Maps Go.WideMaps Go.Shelf Go.Sort
set_option linter.unusedVariables false

/-- A slice of the call's own reads as the numbers zs. -/
def RowI (W : World) (v : Value) (zs : List Int) : Prop := ∃ base, W.ownsRow base 2 1 v zs.length (zs.map (Value.int .i64))
def RowW (W : World) (v : Value) (ys : WL) : Prop := ∃ base, W.ownsRow base 33 3 v ys.length (ys.flatMap encW)
def RowP (W : World) (v : Value) (ys : PL) : Prop := ∃ base, W.ownsRow base 45 2 v ys.length (ys.flatMap encP)
theorem own_form9 {W : World} {base e k n : Nat} {v : Value} {xs : List Value} (h : W.ownsRow base e k v n xs) : (v = .slice none n 0 ∧ n = 0) ∨ ∃ g c, v = .slice (some ⟨g, 0, none⟩) n c ∧ n ≤ c ∧ g < W.heap.size := by
  rcases h.2 with ⟨rfl, rfl⟩ | ⟨g, cap, cur, rfl, _, hb, hn, _⟩
  · exact .inl ⟨rfl, rfl⟩
  · exact .inr ⟨g, cap, rfl, hn, (Array.getElem?_eq_some_iff.1 hb).1⟩
theorem own_at9 {W : World} {base e k n g c : Nat} {A : Option Addr} {xs : List Value} (h : W.ownsRow base e k (.slice A n c) n xs) (hn : 0 < n) : ∃ g, A = some ⟨g, 0, none⟩ ∧ (n : Int) ≤ c := by
  rcases own_form9 h with ⟨_, h0⟩ | ⟨g', c', h1, h2, _⟩
  · omega
  · obtain ⟨rfl, _, rfl⟩ := Value.slice.inj h1
    exact ⟨g', rfl, by omega⟩
theorem own_slice9 {W : World} {base e k n : Nat} {v : Value} {xs : List Value} (h : W.ownsRow base e k v n xs) : ∃ A c, v = .slice A n c := by
  rcases own_form9 h with ⟨h1, _⟩ | ⟨g, c, h1, _⟩
  · exact ⟨_, _, h1⟩
  · exact ⟨_, _, h1⟩
theorem take_eq_of {α : Type} {xs ys : List α} (hl : xs.length = ys.length) {k : Nat} (hk : k < xs.length) (h : xs.take k = ys.take k) (he : xs[k] = ys[k]'(by omega)) : xs.take (k + 1) = ys.take (k + 1) := by
  rw [take_s xs k hk, take_s ys k (by omega), h, he]
set_option maxRecDepth 100000 in
set_option maxHeartbeats 1000000 in
theorem numbers_v {W : World} {v1 v2 : Value} {xs ys : List Int} (h1 : RowI W v1 xs) (h2 : RowI W v2 ys) (hx : xs.length ≤ 1000000) (hy : ys.length ≤ 1000000) :
    Calls Try.prog 16 #[v1, v2] W fun e w' => e = .returned (.bool (decide (xs = ys))) ∧ Below W.heap.size W w' := by
  obtain ⟨base1, h1⟩ := h1
  obtain ⟨base2, h2⟩ := h2
  obtain ⟨A1, c1, rfl⟩ := own_slice9 h1
  obtain ⟨A2, c2, rfl⟩ := own_slice9 h2
  obtain ⟨m, hm⟩ : ∃ m, xs.length = m := ⟨_, rfl⟩
  obtain ⟨q, hq⟩ : ∃ q, ys.length = q := ⟨_, rfl⟩
  rw [hm] at h1 hx ⊢
  rw [hq] at h2 hy ⊢
  have HM := Lib.hid hm
  have HQ := Lib.hid hq
  have H1 := Lib.hid h1
  have H2 := Lib.hid h2
  clear hm hq h1 h2
  by_cases hmq : m = q
  · subst hmq
    have d0 : ((m : Int) != (m : Int)) = false := by simp
    go_enter Try.func16, Try.ntmps16
    go_wp2
    go_loopw [5] (fun i wr => ∃ k : Nat, k ≤ m ∧ i = .int .i64 (k : Int) ∧ xs.take k = ys.take k ∧ Below W.heap.size W wr) (fun i _ => m + 1 - (intOf i).toNat)
    case atStart => exact ⟨0, Nat.zero_le _, rfl, rfl, Below.refl _ _⟩
    case round =>
      obtain ⟨k, hk, rfl, htk, hbw⟩ := hrel
      have HTK := Lib.hid htk
      have HBW := Lib.hid hbw
      clear htk hbw
      by_cases hlt : k < m
      · have hkx : k < xs.length := by rw [HM.out]; exact hlt
        have hky : k < ys.length := by rw [HQ.out]; exact hlt
        have H1w := Lib.hid (own_bel H1.out HBW.out)
        have H2w := Lib.hid (own_bel H2.out HBW.out)
        obtain ⟨g1, rfl, hc1⟩ := own_at9 (g := 0) (c := c1) H1w.out (by omega)
        obtain ⟨g2, rfl, hc2⟩ := own_at9 (g := 0) (c := c2) H2w.out (by omega)
        have q1 : (0 : Int) ≤ (k : Int) := by omega
        have q2 : (k : Int) < (m : Int) := by omega
        have a1 := cellI H1w.out hkx HM.out
        have a2 := cellI H2w.out hky HQ.out
        have HEQ := Lib.hid (fun (he : xs[k] = ys[k]) => take_eq_of (by rw [HM.out, HQ.out]) hkx HTK.out he)
        have HNE := Lib.hid (fun (he : xs[k] ≠ ys[k]) (h9 : xs = ys) => he (by subst h9; rfl))
        generalize xs[k] = z1 at a1 HEQ HNE
        generalize ys[k] = z2 at a2 HEQ HNE
        by_cases he : z1 = z2
        · have d1 : (z1 != z2) = false := by simpa using he
          have HT := Lib.hid (HEQ.out he)
          have hlt' : decide (k < m) = true := by simpa using hlt
          clear he HEQ HNE
          go_wp2
          go_quiet (fail)
          go_wp2
          go_roundw
          case rel => exact ⟨k + 1, hlt, by go_num, HT.out, below_drewN HBW.out _⟩
          case measure => simp [intOf]; omega
        · have d1 : (z1 != z2) = true := by simpa using he
          have HF := Lib.hid (show decide (xs = ys) = false by simpa using HNE.out he)
          have hlt' : decide (k < m) = true := by simpa using hlt
          clear he HEQ HNE
          go_wp2
          go_quiet (fail)
          go_wp2
          go_ret
          rw [HF.out]
          exact ⟨rfl, below_drewN HBW.out _⟩
      · obtain rfl : k = m := by omega
        have hd : decide (k < k) = false := by simp
        have HF : Hid (decide (xs = ys) = true) := by
          have h9 := HTK.out
          rw [List.take_of_length_le (by rw [HM.out]; exact Nat.le_refl _), List.take_of_length_le (by rw [HQ.out]; exact Nat.le_refl _)] at h9
          exact decide_eq_true h9
        go_wp2
        go_ret
        rw [HF.out]
        exact ⟨rfl, HBW.out⟩
  · have d0 : ((m : Int) != (q : Int)) = true := by simp; omega
    have HF := Lib.hid (show decide (xs = ys) = false by simp only [decide_eq_false_iff_not]; intro e; apply hmq; rw [← HM.out, ← HQ.out, e])
    clear hmq
    go_enter Try.func16, Try.ntmps16
    go_wp2
    go_ret
    rw [HF.out]
    exact ⟨rfl, Below.refl _ _⟩
end Go.Proofs.Ytpfikhamokjdjaa
