/- The walk of Get of layer 8. -/
import Derived.Test.YtommadcjemljcaaEncU
import Derived.Test.YtommadcjemljcaaEncO
import Derived.Test.YtommadcjemljcaaLibE
namespace Go.Proofs.Ytommadcjemljcaa
open Go.RowKit
set_option linter.unusedVariables false

theorem str_len (t : TS) : (t.str 255).1.length ≤ 255 := by
  unfold TS.str
  split
  · simp
  · split
    · simp
    · split
      · simp
      · rename_i h _
        simp only [List.length_take]
        have : (max (255 : Int) 0).toNat = 255 := by decide
        omega
mutual
theorem termR_named : ∀ {t : TS} {left : Int} {x : TV} {t' : TS} {left' : Int}, TermR t left x t' left' → x.named
  | _, _, _, _, _, .k1 _ => by simp [TV.named, TV.namedL]
  | t, _, _, _, _, .k2 _ => by
    have := str_len t.byte.2
    simp [TV.named, TV.namedL]; omega
  | _, _, _, _, _, .k35 _ => by simp [TV.named, TV.namedL]
  | _, _, _, _, _, .k4 _ hs => by
    have := someR_named hs
    simp only [TV.named]; exact ⟨by simp, this⟩
  | _, _, _, _, _, .k6 _ hs => by
    have := someR_named hs
    simp only [TV.named]; exact ⟨by simp, this⟩
  | _, _, _, _, _, .k8 _ hs => by
    have := someR_named hs
    simp only [TV.named]; exact ⟨by simp, this⟩
  | _, _, _, _, _, .ko _ => by simp [TV.named, TV.namedL]
theorem someR_named : ∀ {n : Nat} {t : TS} {left : Int} {xs : List TV} {t' : TS} {left' : Int}, SomeR n t left xs t' left' → TV.namedL xs
  | _, _, _, _, _, _, .stop _ => by simp [TV.namedL]
  | _, _, _, _, _, _, .more _ hx hr => by
    simp only [TV.namedL]
    exact ⟨termR_named hx, someR_named hr⟩
end
/-- Bytes that terms have are read as those. -/
theorem get_law {l : List UInt8} {ys xs : List TV} {t' : TS} {left' : Int} (hc : checkP ys = 0) (hp : putB ys = l)
    (hs : SomeR ((⟨l, 0, 0, 0⟩ : TS).number false).1.1 ((⟨l, 0, 0, 0⟩ : TS).number false).2 4096 xs t' left') : xs = ys ∧ t'.fault = 0 ∧ t'.end_ = 0 ∧ 0 ≤ left' := by
  obtain ⟨h1, h2⟩ := check_ok hc
  have hlp := len_parts ys
  have hd : (⟨l, 0, 0, 0⟩ : TS).bytes.drop (⟨l, 0, 0, 0⟩ : TS).pos = laidB ys.length 0 ++ layTs ys := by simp [← hp, putB]
  have hn := number_at (t := ⟨l, 0, 0, 0⟩) (n := ys.length) rfl (by omega) hd
  rw [hn] at hs
  have hd2 := drop_more hd
  rw [laidB_len] at hd2
  obtain ⟨rfl, rfl, rfl⟩ := some_goal ys [] ⟨l, 0 + (wid ys.length + 1), 0, 0⟩ 4096 xs t' left' rfl (by simpa using hd2) h2 (by omega) (by omega) hs
  refine ⟨rfl, rfl, ?_, by omega⟩
  have hl : l.length = wid xs.length + 1 + (layTs xs).length := by rw [← hp, putB, List.length_append, laidB_len]
  unfold TS.end_
  simp only [hl]
  rw [if_neg]
  omega

def GetEnds (W : World) (l : List UInt8) (r : Ending) (w' : World) : Prop :=
  Below W.heap.size W w' ∧ ((∃ xs A c, checkP xs = 0 ∧ putB xs = l ∧ r = .returned (.tuple #[.slice A xs.length c, .int .i64 0]) ∧ RdM w' A c xs) ∨
    ((∀ xs, checkP xs = 0 → putB xs ≠ l) ∧ r = .returned (.tuple #[.slice none 0 0, .int .i64 80])))
theorem putB_len {xs : List TV} (h : checkP xs = 0) : (putB xs).length ≤ 2000000 := by
  obtain ⟨h1, h2⟩ := check_ok h
  have := layTs_len xs h2
  have := wid_le xs.length
  rw [putB, List.length_append, laidB_len]
  omega

set_option maxRecDepth 100000 in
set_option maxHeartbeats 2000000 in
theorem get_any (A : Option Addr) (l : List UInt8) (n c : Nat) (W : World) (hl : l.length = n) (hn : n ≤ 100000000) (hr : Rd W A l) :
    Calls Try.prog 10 #[.slice A n c] W (GetEnds W l) := by
  have HOP := Lib.hid (open_any A l n c W hl (by omega) hr)
  have HL := Lib.hid hl
  obtain ⟨x, hx⟩ : ∃ x, (⟨l, 0, 0, 0⟩ : TS).number false = x := ⟨_, rfl⟩
  have hx9 : x.1.1 < 18446744073709551616 := by rw [← hx]; exact number_lt false
  have HX := Lib.hid hx
  have HR := Lib.hid hr
  clear hl hx hr
  go_enter Try.func10, Try.ntmps10
  go_upto_region 2 with (go_at_call 23; refine HOP.out.mono ?_; rintro r V1 ⟨pt, B, cB, rfl, hT1, hB1, hp1⟩)
  obtain ⟨pr, hpr⟩ : ∃ pr, V1.heap.size = pr := ⟨_, rfl⟩
  have hRS : RS V1.heap.size pt B cB ⟨l, 0, 0, 0⟩ 4096 (V1.alloc (.cells #[.pointer (some ⟨pt, 0, none⟩), .int .i64 4096] 53)) := ⟨hT1.tape.keep (below_alloc _ _), Blk.new _ _ _, by omega, fun b off e => by have := hB1 b off e; omega⟩
  refine wp_world (fun V => (RS V1.heap.size pt B cB ⟨l, 0, 0, 0⟩ 4096 V ∧ Below W.heap.size W V) ∧ ∀ b off, B = some ⟨b, off, none⟩ → b < V.heap.size) ⟨⟨hRS, below_step hT1.bel (below_alloc _ _)⟩, fun b off e => by have := hB1 b off e; simp; omega⟩ ?_
  have hlo : W.heap.size ≤ pr ∧ W.heap.size ≤ pt := ⟨by have := hT1.bel.size; omega, hT1.own⟩
  rw [hpr]
  clear hRS hT1 hB1 hp1 hpr HOP
  rintro V2 ⟨⟨hR2, hb2⟩, hA2⟩
  have c0 : V2.cell? ⟨pr, 0, none⟩ = some (.pointer (some ⟨pt, 0, none⟩)) := hR2.box.cell 0
  have HNU := Lib.hid (tnum_any hR2.tape)
  rw [HX.out] at HNU
  have HRS2 := Lib.hid hR2
  have HB2 := Lib.hid (And.intro hb2 hA2)
  clear hR2 hb2 hA2
  go_wp2_with (fail)
  go_at_call 25
  refine HNU.out.mono ?_
  rintro r V3 ⟨rfl, ha3⟩
  have hR3 := HRS2.out.act ha3
  have hb3 : Below W.heap.size W V3 := HB2.out.1.trans (ha3.fr.below HB2.out.1.size (fun k e => by omega))
  have HSM := Lib.hid (some_any x.1.1 x.2 4096 V3 hx9 hR3 (fun b off e => by have := HB2.out.2 b off e; have := ha3.fr.size; omega) (by omega) (by omega) (by omega))
  clear c0 HNU HRS2 HB2 ha3 hR3
  go_wp2_with (fail)
  go_at_call 24
  refine HSM.out.mono ?_
  rintro r V4 ⟨xs, A4, c4, t4, l4, rfl, hS4, hR4, hX4, hF4, hl4, hg4⟩
  have hb4 : Below W.heap.size W V4 := hb3.trans (hF4.below hb3.size (fun k e => by omega))
  have HLAW : Hid (∀ ys, checkP ys = 0 → putB ys = l → xs = ys ∧ t4.fault = 0 ∧ t4.end_ = 0 ∧ 0 ≤ l4) := fun ys h1 h2 => get_law h1 h2 (by rw [HX.out]; exact hS4)
  have hnm := someR_named hS4
  have hrd := hX4.rd
  clear hb3 HSM hS4 hX4 hF4 hl4
  go_upto_region 3 with (fail)
  refine wp_world (fun V => (RS pr pt B cB t4 l4 V ∧ RdM V A4 c4 xs) ∧ Below W.heap.size W V) ⟨⟨hR4, hrd⟩, hb4⟩ ?_
  clear hR4 hrd hb4
  rintro V5 ⟨⟨hR5, hrd5⟩, hb5⟩
  have HRS5 := Lib.hid hR5
  have HSO := Lib.hid (sound_any hR5)
  have HEN : Hid (∀ q, Calls Try.prog 27 #[.pointer (some ⟨pt, 0, none⟩)] (V5.drewN q) fun r w' => r = .returned (.int .i64 t4.end_) ∧ ∃ q2, w' = (V5.drewN q).drewN q2) := fun q => tend_any (hR5.keep (below_drewN (Below.refl _ _) q)).tape
  have HC0 : Hid (∀ q, (V5.drewN q).cell? ⟨pr, 0, none⟩ = some (.pointer (some ⟨pt, 0, none⟩))) := fun q => (hR5.keep (below_drewN (Below.refl _ _) q)).box.cell 0
  obtain ⟨nx, hnx⟩ : ∃ nx, xs.length = nx := ⟨_, rfl⟩
  have HNX := Lib.hid hnx
  have HRD := Lib.hid hrd5
  have HNM := Lib.hid hnm
  rw [hnx]
  clear hnx hrd5 hR5 hnm
  by_cases hok : t4.fault = 0 ∧ 0 ≤ l4
  rotate_left
  · rw [show (decide (t4.fault = 0) && decide (0 ≤ l4)) = false by
      by_cases hf : t4.fault = 0
      · have : ¬ 0 ≤ l4 := fun e => hok ⟨hf, e⟩
        simp [this]
      · simp [hf]] at HSO
    have HNO : Hid (∀ xs, checkP xs = 0 → putB xs ≠ l) := fun ys h1 h2 => hok ⟨(HLAW.out ys h1 h2).2.1, (HLAW.out ys h1 h2).2.2.2⟩
    clear hok
    go_wp2_with (go_at_call 26; refine HSO.out.mono ?_; rintro r wq ⟨rfl, q, rfl⟩)
    go_ret2
    exact ⟨below_drewN hb5 q, .inr ⟨HNO.out, rfl⟩⟩
  rw [show (decide (t4.fault = 0) && decide (0 ≤ l4)) = true by simp [hok.1, hok.2]] at HSO
  clear hok
  by_cases hen : t4.end_ = 0
  rotate_left
  · have hd : ((t4.end_ : Int) != 0) = true := by rw [bne_iff_ne]; omega
    have HNO : Hid (∀ xs, checkP xs = 0 → putB xs ≠ l) := fun ys h1 h2 => hen (HLAW.out ys h1 h2).2.2.1
    clear hen
    go_wp2_with (first
      | (go_at_call 26; refine HSO.out.mono ?_; rintro r wq ⟨rfl, q, rfl⟩; have g0 := HC0.out q)
      | (go_at_call 27; refine (HEN.out q).mono ?_; rintro r wq ⟨rfl, q2, rfl⟩))
    go_ret2
    exact ⟨below_drewN hb5 (q + q2), .inr ⟨HNO.out, rfl⟩⟩
  rw [hen] at HEN
  clear hen
  have HPU : Hid (∀ V, Below V5.heap.size V5 V → Calls Try.prog 8 #[.slice A4 nx c4] V (PutEnds V xs)) := fun V hV => put_any xs A4 nx c4 V5 V HNX.out HNM.out hV HRD.out
  by_cases hck : checkP xs = 0
  rotate_left
  · obtain ⟨ck, hcke⟩ : ∃ ck, checkP xs = ck := ⟨_, rfl⟩
    have hd : ((ck : Int) != 0) = true := by rw [bne_iff_ne]; omega
    have HNO : Hid (∀ xs, checkP xs = 0 → putB xs ≠ l) := fun ys h1 h2 => hck (by rw [(HLAW.out ys h1 h2).1]; exact h1)
    have HPN : Hid (∀ V, Below V5.heap.size V5 V → Calls Try.prog 8 #[.slice A4 nx c4] V fun r w' => r = .returned (.tuple #[.slice none 0 0, .int .i64 (ck : Nat)]) ∧ Below V.heap.size V w') := fun V hV => (HPU.out V hV).mono fun r w' ⟨hb, h⟩ => by
      rcases h with ⟨_, h⟩ | ⟨h, _⟩
      · exact ⟨by rw [h, hcke], hb⟩
      · exact absurd h hck
    clear hck hcke
    go_wp2_with (first
      | (go_at_call 26; refine HSO.out.mono ?_; rintro r wq ⟨rfl, q, rfl⟩; have g0 := HC0.out q)
      | (go_at_call 27; refine (HEN.out q).mono ?_; rintro r wq ⟨rfl, q2, rfl⟩)
      | (go_at_call 8; refine (HPN.out _ (below_drewN (Below.refl _ _) (q + q2))).mono ?_; rintro r w7 ⟨rfl, hb7⟩))
    go_ret2
    exact ⟨below_step (below_drewN hb5 (q + q2)) hb7, .inr ⟨HNO.out, rfl⟩⟩
  have hpl := putB_len hck
  have HPY : Hid (∀ V, Below V5.heap.size V5 V → Calls Try.prog 8 #[.slice A4 nx c4] V fun r w' => ∃ A7 c7 z, z = (putB xs).length ∧ r = .returned (.tuple #[.slice A7 z c7, .int .i64 0]) ∧ Rd w' A7 (putB xs) ∧ Below V.heap.size V w') := fun V hV => (HPU.out V hV).mono fun r w' ⟨hb, h⟩ => by
    rcases h with ⟨h, _⟩ | ⟨_, A7, c7, h, ho⟩
    · exact absurd hck h
    · obtain ⟨A8, c8, hv, hr8, _⟩ := own_rd ho
      obtain ⟨rfl, _, rfl⟩ := Value.slice.inj hv
      exact ⟨A7, c7, _, rfl, h, hr8, hb⟩
  have HEQ : Hid (∀ V A7 c7 z, Below W.heap.size W V → z = (putB xs).length → Rd V A7 (putB xs) → Calls Try.prog 28 #[.slice A7 z c7, .slice A n c] V fun e w' => e = .returned (.bool (decide (putB xs = l))) ∧ ∃ k, w' = V.drewN k) := fun V A7 c7 z hV hz h7 =>
    equal_any A7 A (putB xs) l z c7 n c V hz.symm HL.out (by omega) (by omega) h7 (HR.out.below hV)
  by_cases hpe : putB xs = l
  · rw [show decide (putB xs = l) = true by simpa using hpe] at HEQ
    have HCK := Lib.hid hck
    have HPE := Lib.hid hpe
    clear hck hpe hpl
    go_wp2_with (first
      | (go_at_call 26; refine HSO.out.mono ?_; rintro r wq ⟨rfl, q, rfl⟩; have g0 := HC0.out q)
      | (go_at_call 27; refine (HEN.out q).mono ?_; rintro r wq ⟨rfl, q2, rfl⟩)
      | (go_at_call 8; refine (HPY.out _ (below_drewN (Below.refl _ _) (q + q2))).mono ?_; rintro r w7 ⟨A7, c7, z, hz, rfl, h7, hb7⟩; have HZ := Lib.hid hz; clear hz)
      | (go_at_call 28; refine (HEQ.out _ _ _ _ (below_step (below_drewN hb5 (q + q2)) hb7) HZ.out h7).mono ?_; rintro r w8 ⟨rfl, q8, rfl⟩))
    go_ret2
    refine ⟨below_drewN (below_step (below_drewN hb5 (q + q2)) hb7) q8, .inl ⟨xs, A4, c4, HCK.out, HPE.out, by rw [HNX.out]; rfl, ?_⟩⟩
    exact ((HRD.out.below (below_drewN (Below.refl _ _) (q + q2))).below hb7).below (below_drewN (Below.refl _ _) q8)
  · rw [show decide (putB xs = l) = false by simpa using hpe] at HEQ
    have HNO : Hid (∀ xs, checkP xs = 0 → putB xs ≠ l) := fun ys h1 h2 => hpe (by rw [(HLAW.out ys h1 h2).1]; exact h2)
    clear hck hpe hpl
    go_wp2_with (first
      | (go_at_call 26; refine HSO.out.mono ?_; rintro r wq ⟨rfl, q, rfl⟩; have g0 := HC0.out q)
      | (go_at_call 27; refine (HEN.out q).mono ?_; rintro r wq ⟨rfl, q2, rfl⟩)
      | (go_at_call 8; refine (HPY.out _ (below_drewN (Below.refl _ _) (q + q2))).mono ?_; rintro r w7 ⟨A7, c7, z, hz, rfl, h7, hb7⟩; have HZ := Lib.hid hz; clear hz)
      | (go_at_call 28; refine (HEQ.out _ _ _ _ (below_step (below_drewN hb5 (q + q2)) hb7) HZ.out h7).mono ?_; rintro r w8 ⟨rfl, q8, rfl⟩))
    go_ret2
    exact ⟨below_drewN (below_step (below_drewN hb5 (q + q2)) hb7) q8, .inr ⟨HNO.out, rfl⟩⟩
end Go.Proofs.Ytommadcjemljcaa
