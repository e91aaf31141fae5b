/- The walk of MailboxFull. -/
import Derived.Test.YthmlpiiajlfmcaaMWord
namespace Go.Proofs.Ythmlpiiajlfmcaa
open Go.RowKit
set_option linter.unusedVariables false

section
variable {w0 : World}
theorem map_rep (e : TE w0) (k : Nat) : (List.replicate k e).map (·.t) = List.replicate k e.t := by simp
theorem bparts_rep (e : TE w0) (k : Nat) : bparts (List.replicate k e) = k * e.t.parts := by
  induction k with
  | zero => simp [bparts, TV.partsL]
  | succ k ih =>
    rw [List.replicate_succ', bparts_snoc, ih]
    rw [Nat.succ_mul]
/-- How many find room. -/
def mostN (p : Nat) : Nat := min 1000 (20000 / p)
theorem most_room {p : Nat} (hp : 1 ≤ p) {k : Nat} (hk : k < mostN p) : k < 1000 ∧ k * p + p ≤ 20000 := by
  unfold mostN at hk
  have h2 : k + 1 ≤ 20000 / p := by omega
  have h3 := (Nat.le_div_iff_mul_le (by omega)).1 h2
  refine ⟨by omega, ?_⟩
  rw [Nat.succ_mul] at h3
  exact h3
theorem most_full {p : Nat} (hp : 1 ≤ p) : 1000 ≤ mostN p ∨ 20000 < mostN p * p + p := by
  unfold mostN
  by_cases h : 1000 ≤ 20000 / p
  · left; omega
  · right
    rw [Nat.min_eq_right (by omega)]
    have := Nat.lt_mul_div_succ 20000 (show 0 < p by omega)
    rw [Nat.mul_comm (20000 / p) p]
    rw [Nat.mul_succ] at this
    exact this
theorem putE_rep (e : TE w0) (hc : checkP [e.t] = 0) (hp : 1 ≤ e.t.parts) (i : Nat) : putE (List.replicate (min i (mostN e.t.parts)) e) e.t = if i < mostN e.t.parts then 0 else 5 := by
  unfold putE
  rw [if_neg (by simp [hc]), bparts_rep, List.length_replicate]
  by_cases h : i < mostN e.t.parts
  · have := most_room hp h
    rw [if_pos h, Nat.min_eq_left (by omega), if_neg (by omega)]
  · have := most_full hp
    rw [if_neg h, Nat.min_eq_right (by omega), if_pos this]
theorem putS_rep (e : TE w0) (hc : checkP [e.t] = 0) (hp : 1 ≤ e.t.parts) (i : Nat) : putS (List.replicate (min i (mostN e.t.parts)) e) e = List.replicate (min (i + 1) (mostN e.t.parts)) e := by
  unfold putS
  rw [putE_rep e hc hp]
  by_cases h : i < mostN e.t.parts
  · rw [if_pos h, if_pos rfl, Nat.min_eq_left (by omega), Nat.min_eq_left (by omega), List.replicate_succ']
  · rw [if_neg h, if_neg (by omega), Nat.min_eq_right (by omega), Nat.min_eq_right (by omega)]
end

/-- A Put of the term, with so many there. -/
def FullBox (w0 : World) (pb : Nat) (e : TE w0) (i : Nat) (V : World) : Prop := ∃ A cap, BoxAt w0 pb A cap (List.replicate (min i (mostN e.t.parts)) e) V
theorem full_put {w0 V : World} {pb : Nat} {t : TV} {A : Option Addr} {c : Nat} {hR : RdM w0 A c t.items} {i : Nat} (h : FullBox w0 pb ⟨t, A, c, hR⟩ i V) (hc : checkP [t] = 0) (hn : t.named) :
    Calls Try.prog 13 #[.pointer (some ⟨pb, 0, none⟩), .agg #[.int .i64 t.kind, .int .i64 t.int, .string ⟨t.name.toArray⟩, .slice A t.items.length c]] V fun r w' => r = .returned (.int .i64 (if i < mostN t.parts then 0 else 5)) ∧ FullBox w0 pb ⟨t, A, c, hR⟩ (i + 1) w' := by
  obtain ⟨A1, cap, hb⟩ := h
  refine (bput_any hb ⟨t, A, c, hR⟩ hn).mono fun r w' ⟨hr, A2, cap2, hb2, _⟩ => ?_
  have h1 := putE_rep (w0 := w0) ⟨t, A, c, hR⟩ hc t.parts_pos i
  have h2 := putS_rep (w0 := w0) ⟨t, A, c, hR⟩ hc t.parts_pos i
  refine ⟨?_, A2, cap2, ?_⟩
  · rw [hr]
    refine ret_int ?_
    show ((putE _ _ : Nat) : Int) = _
    rw [h1]
    split <;> rfl
  · rw [h2] at hb2; exact hb2
theorem full_len {w0 V : World} {pb : Nat} {e : TE w0} {i : Nat} (h : FullBox w0 pb e i V) :
    Calls Try.prog 20 #[.pointer (some ⟨pb, 0, none⟩)] V fun r w' => r = .returned (.int .i64 (min i (mostN e.t.parts) : Nat)) ∧ V = w' := by
  obtain ⟨A1, cap, hb⟩ := h
  refine (blen_any hb).mono fun r w' ⟨hr, hw⟩ => ⟨?_, hw⟩
  rw [hr, List.length_replicate]
theorem full_parts {w0 V : World} {pb : Nat} {e : TE w0} {i : Nat} (h : FullBox w0 pb e i V) :
    Calls Try.prog 21 #[.pointer (some ⟨pb, 0, none⟩)] V fun r w' => r = .returned (.int .i64 ((min i (mostN e.t.parts) : Nat) * (e.t.parts : Nat))) ∧ V = w' := by
  obtain ⟨A1, cap, hb⟩ := h
  refine (bparts_any hb).mono fun r w' ⟨hr, hw⟩ => ⟨?_, hw⟩
  rw [hr]
  refine ret_int ?_
  rw [bparts_rep]
  simp
theorem FullBox.keep {w0 V V' : World} {pb : Nat} {e : TE w0} {i : Nat} (h : FullBox w0 pb e i V) (hb : Below V.heap.size V V') : FullBox w0 pb e i V' := by
  obtain ⟨A1, cap, h⟩ := h
  exact ⟨A1, cap, h.keep hb⟩
theorem FullBox.bel {w0 V : World} {pb : Nat} {e : TE w0} {i : Nat} (h : FullBox w0 pb e i V) : Below w0.heap.size w0 V := by
  obtain ⟨A1, cap, h⟩ := h
  exact BoxAt.bel h
theorem full_new {w0 W V w' : World} {e : TE w0} {r : Ending} (h : BNewEnds w0 W [] r w') : ∃ pb, r = .returned (.tuple #[.pointer (some ⟨pb, 0, none⟩), .int .i64 0]) ∧ FullBox w0 pb e 0 w' := by
  obtain ⟨_, h⟩ := h
  rcases h with ⟨h, _⟩ | ⟨_, pb, A, cap, es, hr, hes, hb, _⟩
  · exact absurd rfl h
  · obtain rfl := List.map_eq_nil_iff.1 hes
    exact ⟨pb, hr, A, cap, by simpa using hb⟩
theorem most_le {p : Nat} (hp : 1 ≤ p) (i : Nat) : min i (mostN p) * p ≤ 20000 := by
  rcases Nat.eq_zero_or_pos (mostN p) with h | h
  · simp [h]
  · have h1 := most_room hp (k := mostN p - 1) (by omega)
    have h2 : min i (mostN p) * p ≤ (mostN p - 1 + 1) * p := Nat.mul_le_mul_right _ (by omega)
    rw [Nat.succ_mul] at h2
    omega
theorem most_int {p : Nat} (hp : 1 ≤ p) : (if (20000 : Int) / (p : Int) < 1000 then 20000 / (p : Int) else 1000) = ((mostN p : Nat) : Int) := by
  have h : ((20000 / p : Nat) : Int) = 20000 / (p : Int) := by simp
  unfold mostN
  rw [← h]
  split <;> omega

set_option maxRecDepth 100000 in
set_option maxHeartbeats 1000000 in
theorem full_bad (t : TV) (A : Option Addr) (c : Nat) (n : Int) (w : World) (hR : RdM w A c t.items) (hn : t.named) (h : checkP [t] ≠ 0) :
    Calls Try.prog 4 #[.agg #[.int .i64 t.kind, .int .i64 t.int, .string ⟨t.name.toArray⟩, .slice A t.items.length c], .int .i64 n] w (Yes w) := by
  have HCK : Hid (∀ V g, Below w.heap.size w V → Blk V g 35 #[.int .i64 t.kind, .int .i64 t.int, .string ⟨t.name.toArray⟩, .slice A t.items.length c] → Calls Try.prog 23 #[.slice (some ⟨g, 0, none⟩) 1 1] V fun e w' => e = .returned (.int .i64 (checkP [t] : Nat)) ∧ Below V.heap.size V w') := fun V g hb hB =>
    (rcheck_any [t] (some ⟨g, 0, none⟩) 1 1 V V rfl (by simp [TV.namedL, hn]) (Below.refl _ _) (rdm_one (⟨t, A, c, hR⟩ : TE w) hB hb)).mono fun e w' ⟨he, h⟩ => ⟨by rw [he], h⟩
  have HLIVE : Hid (∀ V, Below w.heap.size w V → Calls Try.prog 9 #[] V fun e w' => e = .returned (.bool true) ∧ Below w.heap.size w w') := fun V hb => (live_any V).mono fun e w' ⟨he, h⟩ => ⟨he, below_step hb h⟩
  generalize checkP [t] = ck at *
  have d1 : ((ck : Int) != 0) = true := by rw [bne_iff_ne]; omega
  clear h
  go_enter Try.func4, Try.ntmps4
  go_upto_region 1 with (fail)
  obtain ⟨tb, htb⟩ : ∃ tb, w.heap.size = tb := ⟨_, rfl⟩
  refine wp_world (fun V => Below w.heap.size w V ∧ Blk V w.heap.size 35 #[.int .i64 t.kind, .int .i64 t.int, .string ⟨t.name.toArray⟩, .slice A t.items.length c]) ⟨below_alloc _ _, Blk.new _ _ _⟩ ?_
  rw [htb]
  rintro W1 ⟨hb1, hk1⟩
  rw [← htb] at hb1
  have c0 := hk1.cell 0
  have c1 := hk1.cell 1
  have c2 := hk1.cell 2
  have c3 := hk1.cell 3
  go_wp2_with (first
    | (go_at_call 23; refine (HCK.out _ _ (below_step hb1 (below_alloc _ _)) (Blk.new _ _ _)).mono ?_; rintro e w5 ⟨rfl, hb5⟩)
    | (go_at_call 9; refine (HLIVE.out _ (below_step (below_step hb1 (below_alloc _ _)) hb5)).mono ?_; clear hb5; rintro e w' ⟨rfl, hb9⟩))
  go_ret
  exact ⟨rfl, hb9⟩

set_option maxRecDepth 100000 in
set_option maxHeartbeats 1000000 in
theorem full_out (t : TV) (A : Option Addr) (c : Nat) (n : Int) (w : World) (hR : RdM w A c t.items) (hn : t.named) (hck : checkP [t] = 0) (h : n < 0 ∨ 1100 < n) :
    Calls Try.prog 4 #[.agg #[.int .i64 t.kind, .int .i64 t.int, .string ⟨t.name.toArray⟩, .slice A t.items.length c], .int .i64 n] w (Yes w) := by
  have HCK : Hid (∀ V g, Below w.heap.size w V → Blk V g 35 #[.int .i64 t.kind, .int .i64 t.int, .string ⟨t.name.toArray⟩, .slice A t.items.length c] → Calls Try.prog 23 #[.slice (some ⟨g, 0, none⟩) 1 1] V fun e w' => e = .returned (.int .i64 0) ∧ Below V.heap.size V w') := fun V g hb hB =>
    (rcheck_any [t] (some ⟨g, 0, none⟩) 1 1 V V rfl (by simp [TV.namedL, hn]) (Below.refl _ _) (rdm_one (⟨t, A, c, hR⟩ : TE w) hB hb)).mono fun e w' ⟨he, h⟩ => ⟨by rw [he, hck]; rfl, h⟩
  have HLIVE : Hid (∀ V, Below w.heap.size w V → Calls Try.prog 9 #[] V fun e w' => e = .returned (.bool true) ∧ Below w.heap.size w w') := fun V hb => (live_any V).mono fun e w' ⟨he, h⟩ => ⟨he, below_step hb h⟩
  clear hck
  by_cases h1 : n < 0
  · have d1 : decide (n < 0) = true := by simpa using h1
    clear h
    go_enter Try.func4, Try.ntmps4
    go_upto_region 1 with (fail)
    obtain ⟨tb, htb⟩ : ∃ tb, w.heap.size = tb := ⟨_, rfl⟩
    refine wp_world (fun V => Below w.heap.size w V ∧ Blk V w.heap.size 35 #[.int .i64 t.kind, .int .i64 t.int, .string ⟨t.name.toArray⟩, .slice A t.items.length c]) ⟨below_alloc _ _, Blk.new _ _ _⟩ ?_
    rw [htb]
    rintro W1 ⟨hb1, hk1⟩
    rw [← htb] at hb1
    have c0 := hk1.cell 0
    have c1 := hk1.cell 1
    have c2 := hk1.cell 2
    have c3 := hk1.cell 3
    go_wp2_with (first
      | (go_at_call 23; refine (HCK.out _ _ (below_step hb1 (below_alloc _ _)) (Blk.new _ _ _)).mono ?_; rintro e w5 ⟨rfl, hb5⟩)
      | (go_at_call 9; refine (HLIVE.out _ (below_step (below_step hb1 (below_alloc _ _)) hb5)).mono ?_; clear hb5; rintro e w' ⟨rfl, hb9⟩))
    go_ret
    exact ⟨rfl, hb9⟩
  · have d1 : decide (n < 0) = false := by simpa using h1
    have d2 : decide (1100 < n) = true := by simp; omega
    clear h
    go_enter Try.func4, Try.ntmps4
    go_upto_region 1 with (fail)
    obtain ⟨tb, htb⟩ : ∃ tb, w.heap.size = tb := ⟨_, rfl⟩
    refine wp_world (fun V => Below w.heap.size w V ∧ Blk V w.heap.size 35 #[.int .i64 t.kind, .int .i64 t.int, .string ⟨t.name.toArray⟩, .slice A t.items.length c]) ⟨below_alloc _ _, Blk.new _ _ _⟩ ?_
    rw [htb]
    rintro W1 ⟨hb1, hk1⟩
    rw [← htb] at hb1
    have c0 := hk1.cell 0
    have c1 := hk1.cell 1
    have c2 := hk1.cell 2
    have c3 := hk1.cell 3
    go_wp2_with (first
      | (go_at_call 23; refine (HCK.out _ _ (below_step hb1 (below_alloc _ _)) (Blk.new _ _ _)).mono ?_; rintro e w5 ⟨rfl, hb5⟩)
      | (go_at_call 9; refine (HLIVE.out _ (below_step (below_step hb1 (below_alloc _ _)) hb5)).mono ?_; clear hb5; rintro e w' ⟨rfl, hb9⟩))
    go_ret
    exact ⟨rfl, hb9⟩

set_option maxRecDepth 100000 in
set_option maxHeartbeats 2000000 in
theorem full_in (t : TV) (A : Option Addr) (c N : Nat) (w : World) (hR : RdM w A c t.items) (hn : t.named) (hck : checkP [t] = 0) (hN : N ≤ 1100) :
    Calls Try.prog 4 #[.agg #[.int .i64 t.kind, .int .i64 t.int, .string ⟨t.name.toArray⟩, .slice A t.items.length c], .int .i64 (N : Int)] w (Yes w) := by
  have HCK : Hid (∀ V g, Below w.heap.size w V → Blk V g 35 #[.int .i64 t.kind, .int .i64 t.int, .string ⟨t.name.toArray⟩, .slice A t.items.length c] → Calls Try.prog 23 #[.slice (some ⟨g, 0, none⟩) 1 1] V fun e w' => e = .returned (.int .i64 0) ∧ Below V.heap.size V w') := fun V g hb hB =>
    (rcheck_any [t] (some ⟨g, 0, none⟩) 1 1 V V rfl (by simp [TV.namedL, hn]) (Below.refl _ _) (rdm_one (⟨t, A, c, hR⟩ : TE w) hB hb)).mono fun e w' ⟨he, h⟩ => ⟨by rw [he, hck]; rfl, h⟩
  have HLIVE : Hid (∀ V, Below w.heap.size w V → Calls Try.prog 9 #[] V fun e w' => e = .returned (.bool true) ∧ Below w.heap.size w w') := fun V hb => (live_any V).mono fun e w' ⟨he, h⟩ => ⟨he, below_step hb h⟩
  have hp1 := t.parts_pos
  have hp4 := (check_one hck).1
  have HRZ := Lib.hid (fun V (hV : Below w.heap.size w V) => rsize_any t A c w V hV hR)
  rw [show sizeP t.parts = t.parts by unfold sizeP; rw [if_pos hp4]] at HRZ
  have HN := Lib.hid hn
  have HC := Lib.hid hck
  clear hn hck
  have d1 : decide ((N : Int) < 0) = false := by simp
  have d2 : decide ((1100 : Int) < (N : Int)) = false := by simp; omega
  go_enter Try.func4, Try.ntmps4
  go_upto_region 1 with (fail)
  obtain ⟨tb, htb⟩ : ∃ tb, w.heap.size = tb := ⟨_, rfl⟩
  refine wp_world (fun V => Below w.heap.size w V ∧ Blk V w.heap.size 35 #[.int .i64 t.kind, .int .i64 t.int, .string ⟨t.name.toArray⟩, .slice A t.items.length c]) ⟨below_alloc _ _, Blk.new _ _ _⟩ ?_
  rw [htb]
  rintro W1 ⟨hb1, hk1⟩
  rw [← htb] at hb1
  have c0 := hk1.cell 0
  have c1 := hk1.cell 1
  have c2 := hk1.cell 2
  have c3 := hk1.cell 3
  go_upto_region 3 with (go_at_call 23; refine (HCK.out _ _ (below_step hb1 (below_alloc _ _)) (Blk.new _ _ _)).mono ?_; rintro e w5 ⟨rfl, hb5⟩)
  refine wp_world (fun V => Below w.heap.size w V ∧ Blk V tb 35 #[.int .i64 t.kind, .int .i64 t.int, .string ⟨t.name.toArray⟩, .slice A t.items.length c]) ⟨below_step (below_step hb1 (below_alloc _ _)) hb5, (hk1.alloc _).keep hb5⟩ ?_
  clear c0 c1 c2 c3 hb5 hb1 hk1
  rintro W2 ⟨hb2, hk2⟩
  have HNEW : Hid (Calls Try.prog 10 #[.slice none 0 0] W2 fun r w' => ∃ pb, r = .returned (.tuple #[.pointer (some ⟨pb, 0, none⟩), .int .i64 0]) ∧ FullBox W2 pb ⟨t, A, c, hR.below hb2⟩ 0 w' ∧ Below W2.heap.size W2 w') := (bnew_any [] none 0 0 W2 W2 rfl (by simp [TV.namedL]) (Below.refl _ _) ⟨Nat.le_refl _, by omega, .inl rfl⟩).mono fun r w' h => by
    obtain ⟨pb, h1, h2⟩ := full_new (V := w') (e := ⟨t, A, c, hR.below hb2⟩) h
    exact ⟨pb, h1, h2, h.1⟩
  go_upto_region 6 with (first
    | (go_at_call 10; refine HNEW.out.mono ?_; rintro r w3 ⟨pb, rfl, hbx, hb3⟩)
    | (go_at_call 12; refine (num_any _ _).mono ?_; rintro e w' ⟨rfl, rfl⟩))
  have hk3 := hk2.keep hb3
  have hb3' := below_step hb2 hb3
  have c0 := hk3.cell 0
  have c1 := hk3.cell 1
  have c2 := hk3.cell 2
  have c3 := hk3.cell 3
  have hML : ∀ i, (0 : Int) ≤ (min i (mostN t.parts) : Nat) * (t.parts : Int) ∧ ((min i (mostN t.parts) : Nat) : Int) * (t.parts : Int) ≤ 20000 := fun i => by
    have := most_le hp1 i
    have h : ((min i (mostN t.parts) * t.parts : Nat) : Int) = (min i (mostN t.parts) : Nat) * (t.parts : Int) := by simp
    rw [← h]
    omega
  have HML := Lib.hid hML
  clear hML
  have hM := most_int hp1
  have HPT : Hid (∀ i V, FullBox W2 pb ⟨t, A, c, hR.below hb2⟩ i V → _) := fun i V h => full_put h HC.out HN.out
  have HPA : Hid (∀ i V, FullBox W2 pb ⟨t, A, c, hR.below hb2⟩ i V → _) := fun i V h => full_parts h
  have HLE : Hid (∀ i V, FullBox W2 pb ⟨t, A, c, hR.below hb2⟩ i V → _) := fun i V h => full_len h
  have hM1 : mostN t.parts ≤ 1000 := by unfold mostN; omega
  dsimp only at HPT HPA HLE
  generalize hMM : mostN t.parts = M at *
  go_upto_region 8 with (go_at_call 24; refine (HRZ.out _ hb3').mono ?_; rintro e w4 ⟨rfl, hb4⟩)
  have hF4 := hbx.keep hb4
  clear hM hMM hb4 hbx hb3 hk3 hb3' c0 c1 c2 c3 HNEW HRZ HCK
  go_wp2
  go_loopw [9] (fun i wr => ∃ (j : Nat), j ≤ N ∧ i = .int .i64 j ∧ FullBox W2 pb ⟨t, A, c, hR.below hb2⟩ j wr) (fun i _ => N - (intOf i).toNat)
  case atStart => exact ⟨0, Nat.zero_le _, rfl, hF4⟩
  case round =>
    obtain ⟨j, hj, rfl, hF⟩ := hrel
    have hkr := hk2.keep hF.bel
    have c0 := hkr.cell 0
    have c1 := hkr.cell 1
    have c2 := hkr.cell 2
    have c3 := hkr.cell 3
    by_cases hlt : j < N
    · have hd : decide (j < N) = true := by simpa using hlt
      by_cases hm : j < M
      · skip
        have hX : min (j + 1) M = j + 1 := by omega
        have H2 := HLE.out (j + 1)
        have H3 := HPA.out (j + 1)
        obtain ⟨q3, q4⟩ := HML.out (j + 1)
        rw [hX] at H2 H3 q3 q4
        have H1 := HPT.out j wr hF
        rw [if_pos hm] at H1
        have hmin : (if (M : Int) < (j : Int) + 1 then (M : Int) else (j : Int) + 1) = (j : Int) + 1 := by rw [if_neg (by omega)]
        have dm : decide (j < M) = true := by simp; omega
        have HPT' := Lib.hid H1
        have HLE' := Lib.hid H2
        have HPA' := Lib.hid H3
        clear H1 H2 H3 hX
        push_cast at q3 q4
        go_wp2_with (first
          | (go_at_call 13; refine HPT'.out.mono ?_; rintro r w5 ⟨rfl, hF5⟩)
          | (go_at_call 12; refine (num_any _ _).mono ?_; rintro e w' ⟨rfl, rfl⟩)
          | (go_at_call 20; refine (HLE'.out _ hF5).mono ?_; rintro e w' ⟨rfl, rfl⟩)
          | (go_at_call 21; refine (HPA'.out _ hF5).mono ?_; rintro e w' ⟨rfl, rfl⟩))
        go_roundw
        case rel => exact ⟨j + 1, by omega, by go_num, hF5⟩
        case measure => simp [intOf]; omega
      · skip
        have hX : min (j + 1) M = M := by omega
        have H2 := HLE.out (j + 1)
        have H3 := HPA.out (j + 1)
        obtain ⟨q3, q4⟩ := HML.out (j + 1)
        rw [hX] at H2 H3 q3 q4
        have H1 := HPT.out j wr hF
        rw [if_neg hm] at H1
        have hmin : (if (M : Int) < (j : Int) + 1 then (M : Int) else (j : Int) + 1) = (M : Int) := by split <;> omega
        have dm : decide (j < M) = false := by simp; omega
        have HPT' := Lib.hid H1
        have HLE' := Lib.hid H2
        have HPA' := Lib.hid H3
        clear H1 H2 H3 hX
        go_wp2_with (first
          | (go_at_call 13; refine HPT'.out.mono ?_; rintro r w5 ⟨rfl, hF5⟩)
          | (go_at_call 12; refine (num_any _ _).mono ?_; rintro e w' ⟨rfl, rfl⟩)
          | (go_at_call 20; refine (HLE'.out _ hF5).mono ?_; rintro e w' ⟨rfl, rfl⟩)
          | (go_at_call 21; refine (HPA'.out _ hF5).mono ?_; rintro e w' ⟨rfl, rfl⟩))
        go_roundw
        case rel => exact ⟨j + 1, by omega, by go_num, hF5⟩
        case measure => simp [intOf]; omega
    · obtain rfl : j = N := by omega
      have hd : decide (j < j) = false := by simp
      have hb6 := below_step hb2 hF.bel
      go_wp2_with (go_at_call 9; refine (HLIVE.out _ hb6).mono ?_; rintro e w' ⟨rfl, hb9⟩)
      go_ret
      exact ⟨rfl, hb9⟩
theorem mailboxFull_any (t : TV) (A : Option Addr) (c : Nat) (n : Int) (w : World) (hR : RdM w A c t.items) (hn : t.named) :
    Calls Try.prog 4 #[.agg #[.int .i64 t.kind, .int .i64 t.int, .string ⟨t.name.toArray⟩, .slice A t.items.length c], .int .i64 n] w (Yes w) := by
  by_cases hc : checkP [t] = 0
  · by_cases h : 0 ≤ n ∧ n ≤ 1100
    · obtain ⟨N, rfl⟩ := Int.eq_ofNat_of_zero_le h.1
      exact full_in t A c N w hR hn hc (by omega)
    · exact full_out t A c n w hR hn hc (by omega)
  · exact full_bad t A c n w hR hn hc
end Go.Proofs.Ythmlpiiajlfmcaa
