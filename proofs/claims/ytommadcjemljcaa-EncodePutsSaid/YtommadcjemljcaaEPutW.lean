/- The walk of EncodePuts. -/
import Derived.Test.YtommadcjemljcaaEncX
import Derived.Test.YtommadcjemljcaaQGet
import Derived.Test.YtommadcjemljcaaTE
namespace Go.Proofs.Ytommadcjemljcaa
open Go.RowKit
set_option linter.unusedVariables false

/-- What Put lays of any terms. -/
def putZ (l : List TV) : List UInt8 := if checkP l = 0 then putB l else []
theorem putZ_len (l : List TV) : (putZ l).length ≤ 2000000 := by
  unfold putZ
  split
  · exact putB_len (by assumption)
  · simp
def PutIs (l : List TV) (W : World) (r : Ending) (w' : World) : Prop := ∃ A1 c1, r = .returned (.tuple #[.slice A1 (putZ l).length c1, .int .i64 (checkP l : Nat)]) ∧ Rd w' A1 (putZ l) ∧ Below W.heap.size W w'
theorem put_is {l : List TV} {W w' : World} {r : Ending} (h : PutEnds W l r w') : PutIs l W r w' := by
  obtain ⟨hb, h⟩ := h
  rcases h with ⟨h, hr⟩ | ⟨h, A1, c1, hr, ho⟩
  · have hz : putZ l = [] := by unfold putZ; rw [if_neg h]
    exact ⟨none, 0, by rw [hr, hz]; rfl, by rw [hz]; exact .inl rfl, hb⟩
  · have hz : putZ l = putB l := by unfold putZ; rw [if_pos h]
    obtain ⟨A8, c8, hv, hr8, _⟩ := own_rd ho
    obtain ⟨rfl, _, rfl⟩ := Value.slice.inj hv
    exact ⟨A1, c1, by rw [hr, hz, h]; rfl, by rw [hz]; exact hr8, hb⟩
def GetIs (ts : List TV) (g : Nat) (W : World) (r : Ending) (w' : World) : Prop := ∃ A1 c1, r = .returned (.tuple #[.slice A1 ts.length c1, .int .i64 (g : Nat)]) ∧ RdM w' A1 c1 ts ∧ Below W.heap.size W w'
/-- What Get reads of any bytes. -/
theorem get_is (b : List UInt8) : ∃ (ts : List TV) (g : Nat), ∀ W r w', GetEnds W b r w' → GetIs ts g W r w' := by
  by_cases h : ∃ ys, checkP ys = 0 ∧ putB ys = b
  · obtain ⟨ys, h1, h2⟩ := h
    refine ⟨ys, 0, fun W r w' ⟨hb, h⟩ => ?_⟩
    rcases h with ⟨xs, A1, c1, hx, hp, hr, hm⟩ | ⟨h, _⟩
    · obtain ⟨rfl, _⟩ := putB_one (r := []) (r' := []) h1 hx (by rw [h2, hp])
      exact ⟨A1, c1, hr, hm, hb⟩
    · exact absurd h2 (h ys h1)
  · refine ⟨[], 80, fun W r w' ⟨hb, h'⟩ => ?_⟩
    rcases h' with ⟨xs, A1, c1, hx, hp, hr, hm⟩ | ⟨_, hr⟩
    · exact absurd ⟨xs, hx, hp⟩ h
    · exact ⟨none, 0, hr, ⟨Nat.le_refl _, by omega, .inl rfl⟩, hb⟩

set_option maxRecDepth 100000 in
set_option maxHeartbeats 4000000 in
theorem eputs_in (l : List TV) (b : List UInt8) (A A2 : Option Addr) (len c n2 c2 : Nat) (w : World) (hlen : l.length = len) (hnm : TV.namedL l) (hR : RdM w A c l) (h1 : len ≤ 5000) (hl2 : b.length = n2) (hn2 : n2 ≤ 20000) (hr2 : Rd w A2 b) :
    Calls Try.prog 3 #[.slice A len c, .slice A2 n2 c2] w (Yes w) := by
  have hd5 : decide (5000 < len) = false := by simp; omega
  have hd6 : decide (20000 < n2) = false := by simp; omega
  have HLEN := Lib.hid hlen
  have HL2 := Lib.hid hl2
  have HR := Lib.hid hR
  have HRB := Lib.hid hr2
  obtain ⟨es, hes, hcs⟩ := rdm_te hR
  have HES := Lib.hid hes
  have HESL := Lib.hid (show es.length = len by rw [← hlen, ← hes, List.length_map])
  have HCS := Lib.hid (fun V (hV : Below w.heap.size w V) => Cs.below hcs hV)
  have HCL := Lib.hid (show (cellsL es).length = len * 4 by rw [cellsL_len, HESL.out])
  have HC1 := Lib.hid (cellsL_one' es)
  obtain ⟨p, hp⟩ : ∃ p, putZ l = p := ⟨_, rfl⟩
  obtain ⟨e, he⟩ : ∃ e, checkP l = e := ⟨_, rfl⟩
  obtain ⟨z, hz⟩ : ∃ z, p.length = z := ⟨_, rfl⟩
  have HP : Hid (∀ V A' c', RdM V A' c' l → Calls Try.prog 8 #[.slice A' len c'] V fun r w' => ∃ A1 c1, r = .returned (.tuple #[.slice A1 z c1, .int .i64 (e : Int)]) ∧ Rd w' A1 p ∧ Below V.heap.size V w') := fun V A' c' h => (put_any l A' len c' V V hlen hnm (Below.refl _ _) h).mono fun r w' h => by
    have h9 := put_is h
    unfold PutIs at h9
    rw [hp, he, hz] at h9
    exact h9
  have HQ : Hid (∀ V, RdM V A c l → Calls Try.prog 9 #[.slice A len c] V fun r w' => ∃ A1 c1, r = .returned (.tuple #[.slice A1 z c1, .int .i64 (e : Int)]) ∧ Rd w' A1 p ∧ Below V.heap.size V w') := fun V h => (qput_any l A len c V V hlen hnm (Below.refl _ _) h).mono fun r w' h => by
    have h9 := put_is h
    unfold PutIs at h9
    rw [hp, he, hz] at h9
    exact h9
  obtain ⟨ts, g, hg⟩ := get_is b
  obtain ⟨m, hm⟩ : ∃ m, ts.length = m := ⟨_, rfl⟩
  have HG : Hid (∀ V A' c', Rd V A' b → Calls Try.prog 10 #[.slice A' n2 c'] V fun r w' => ∃ A1 c1, r = .returned (.tuple #[.slice A1 m c1, .int .i64 (g : Int)]) ∧ RdM w' A1 c1 ts ∧ Below V.heap.size V w') := fun V A' c' h => (get_any A' b n2 c' V hl2 (by omega) h).mono fun r w' h => by
    have h9 := hg _ _ _ h
    unfold GetIs at h9
    rw [hm] at h9
    exact h9
  have HH : Hid (∀ V, Rd V A2 b → Calls Try.prog 11 #[.slice A2 n2 c2] V fun r w' => ∃ A1 c1, r = .returned (.tuple #[.slice A1 m c1, .int .i64 (g : Int)]) ∧ RdM w' A1 c1 ts ∧ Below V.heap.size V w') := fun V h => (qget_any A2 b n2 c2 V hl2 (by omega) h).mono fun r w' h => by
    have h9 := hg _ _ _ h
    unfold GetIs at h9
    rw [hm] at h9
    exact h9
  have HM := Lib.hid hm
  have HZ := Lib.hid hz
  have hz9 : z ≤ 2000000 := by rw [← hz, ← hp]; exact putZ_len l
  have hmx : 0 + len ≤ maxLen := by simp only [maxLen]; omega
  have hbx : (0 + len) * 56 ≤ 140737488355328 := by omega
  have hmy : 0 + n2 ≤ maxLen := by simp only [maxLen]; omega
  have hby : (0 + n2) * 1 ≤ 140737488355328 := by omega
  have HBL := Lib.hid (show (b.map bv).length = n2 * 1 by rw [List.length_map, hl2]; omega)
  have HB1 := Lib.hid (bvs_one b)
  have HO0 := Lib.hid (own_made (W := w) w.heap.size 39 4 (Nat.le_refl _))
  have hbs : w.heap.size ≤ (w.alloc (.cells #[] 39)).heap.size := by simp
  clear hlen hnm hR hl2 hr2 hes hcs hp he hz hg hm
  go_enter Try.func3, Try.ntmps3
  go_upto_region 4 with (first
    | (at_builtin; refine wpList_app ex_termsT rfl (.tmp 23) (.tmp 24) rfl w.heap.size (.slice (some ⟨w.heap.size, 0, none⟩) 0 0) 0 [] rfl HO0.out A len c (cellsL es) rfl HCL.out (HCS.out _ (below_alloc _ _)) HC1.out hmx hbx hbs ?_; intro v2 V2 ho2 hg2 hw2; simp only [Nat.zero_add, List.nil_append] at ho2; obtain ⟨A3, c3, rfl⟩ := ex_form ho2; have hb2 : Below w.heap.size w V2 := (below_alloc w _).grown hg2 (by simp) (fun k hk => Nat.le_of_eq (by simpa [Value.ownBlock] using hk)); have hm2 : RdM V2 A3 c3 l := (by have h9 := rdm_of_own ho2 HESL.out hb2; rw [HES.out] at h9; exact h9))
    | (go_at_call 8; refine (HP.out _ _ _ hm2).mono ?_; rintro r V3 ⟨A4, c4, rfl, hr3, hb3⟩))
  refine wp_world (fun V => Below w.heap.size w V ∧ Rd V A4 p) ⟨below_step hb2 hb3, hr3⟩ ?_
  clear hb2 hb3 hr3 ho2 hg2 hw2 hm2 HP HO0 HCS
  rintro V4 ⟨hb4, hr4⟩
  have hRw := HR.out.below hb4
  have HR4 := Lib.hid (And.intro hb4 hr4)
  clear hb4 hr4
  go_upto_region 5 with (go_at_call 9; refine (HQ.out _ hRw).mono ?_; rintro r V5 ⟨A5, c5, rfl, hr5, hb5⟩)
  refine wp_world (fun V => Below w.heap.size w V ∧ Rd V A4 p ∧ Rd V A5 p) ⟨below_step HR4.out.1 hb5, HR4.out.2.below hb5, hr5⟩ ?_
  clear hb5 hr5 hRw HQ HR4
  rintro V6 ⟨hb6, hr6, hs6⟩
  have HR6 := Lib.hid (And.intro hb6 (And.intro hr6 hs6))
  have HO1 := Lib.hid (own_made (W := V6) V6.heap.size 5 1 (Nat.le_refl _))
  have HCB := Lib.hid ((HRB.out.below (below_step hb6 (below_alloc V6 (.cells #[] 5)))).cs)
  have hbs6 : V6.heap.size ≤ (V6.alloc (.cells #[] 5)).heap.size := by simp
  clear hb6 hr6 hs6
  go_upto_region 6 with (first
    | (at_builtin; refine wpList_app bytesT rfl (.tmp 35) (.tmp 36) rfl V6.heap.size (.slice (some ⟨V6.heap.size, 0, none⟩) 0 0) 0 [] rfl HO1.out A2 n2 c2 (b.map bv) rfl HBL.out HCB.out HB1.out hmy hby hbs6 ?_; intro v7 V7 ho7 hg7 hw7; simp only [Nat.zero_add, List.nil_append] at ho7; obtain ⟨A7, c7, rfl, hr7, _, _⟩ := own_rd ho7; have hb7 : Below V6.heap.size V6 V7 := (below_alloc V6 _).grown hg7 (by simp) (fun k hk => Nat.le_of_eq (by simpa [Value.ownBlock] using hk)))
    | (go_at_call 10; refine (HG.out _ _ _ hr7).mono ?_; rintro r V8 ⟨A8, c8, rfl, hm8, hb8⟩))
  refine wp_world (fun V => (Below w.heap.size w V ∧ Rd V A4 p ∧ Rd V A5 p) ∧ RdM V A8 c8 ts) ⟨⟨below_step (below_step HR6.out.1 hb7) hb8, (HR6.out.2.1.below hb7).below hb8, (HR6.out.2.2.below hb7).below hb8⟩, hm8⟩ ?_
  clear hb7 hb8 hm8 hr7 ho7 hg7 hw7 HG HR6 HO1 HCB hbs6
  rintro V9 ⟨⟨hb9, hr9, hs9⟩, hm9⟩
  have hBw := HRB.out.below hb9
  have HR9 := Lib.hid (And.intro (And.intro hb9 (And.intro hr9 hs9)) hm9)
  clear hb9 hr9 hs9 hm9
  go_upto_region 7 with (go_at_call 11; refine (HH.out _ hBw).mono ?_; rintro r X0 ⟨A9, c9, rfl, hmX, hbX⟩)
  refine wp_world (fun V => ((Below w.heap.size w V ∧ Rd V A4 p ∧ Rd V A5 p) ∧ RdM V A8 c8 ts) ∧ RdM V A9 c9 ts) ⟨⟨⟨below_step HR9.out.1.1 hbX, HR9.out.1.2.1.below hbX, HR9.out.1.2.2.below hbX⟩, HR9.out.2.below hbX⟩, hmX⟩ ?_
  clear hmX hbX HH HR9 hBw
  rintro X ⟨⟨⟨hbX, hrX, hsX⟩, hmX⟩, hqX⟩
  have hst1 := run_str (P := Try.prog) Try.underlying23 Try.underlying5 Try.underlying9 X A4 z c4 p HZ.out hrX
  have hst2 := run_str (P := Try.prog) Try.underlying23 Try.underlying5 Try.underlying9 X A5 z c5 p HZ.out hsX
  have HROWS : Hid (Calls Try.prog 13 #[.slice A8 m c8, .slice A9 m c9] X fun e w' => e = .returned (.bool true) ∧ Below X.heap.size X w') :=
    (rows_any ts ts A8 m c8 A9 m c9 X X HM.out HM.out (Below.refl _ _) hmX hqX).mono fun e w' ⟨he, h⟩ => ⟨by rw [he, rowsB_self], h⟩
  have HBX := Lib.hid hbX
  clear hrX hsX hmX hqX hbX
  go_wp2_with (first
    | (go_at_call 12; refine (num_any _ _).mono ?_; rintro e w' ⟨rfl, rfl⟩)
    | (go_at_call 13; refine HROWS.out.mono ?_; rintro r Y1 ⟨rfl, hbY⟩)
    | (go_at_call 7; refine (live_from (below_step HBX.out hbY)).mono ?_; rintro e Y2 ⟨rfl, hbZ⟩))
  go_ret
  exact ⟨rfl, hbZ⟩

set_option maxRecDepth 100000 in
set_option maxHeartbeats 2000000 in
theorem eputs_any (l : List TV) (b : List UInt8) (A A2 : Option Addr) (len c n2 c2 : Nat) (w : World) (hlen : l.length = len) (hnm : TV.namedL l) (hR : RdM w A c l) (hl2 : b.length = n2) (hc2 : n2 ≤ c2) (hcm2 : c2 ≤ 9223372036854775807) (hr2 : Rd w A2 b) :
    Calls Try.prog 3 #[.slice A len c, .slice A2 n2 c2] w (Yes w) := by
  have hlc : len ≤ 9223372036854775807 := by have := hR.1; have := hR.2.1; omega
  by_cases h1 : 5000 < len
  · have hd5 : decide (5000 < len) = true := by simpa using h1
    clear hlen hnm hR
    go_enter Try.func3, Try.ntmps3
    go_wp2_with (go_at_call 7; refine (live_any w).mono ?_; rintro e w9 ⟨rfl, hb9⟩)
    go_ret
    exact ⟨rfl, hb9⟩
  by_cases h2 : 20000 < n2
  · have hd5 : decide (5000 < len) = false := by simpa using h1
    have hd6 : decide (20000 < n2) = true := by simpa using h2
    clear hlen hnm hR
    go_enter Try.func3, Try.ntmps3
    go_wp2_with (go_at_call 7; refine (live_any w).mono ?_; rintro e w9 ⟨rfl, hb9⟩)
    go_ret
    exact ⟨rfl, hb9⟩
  exact eputs_in l b A A2 len c n2 c2 w hlen hnm hR (by omega) hl2 (by omega) hr2
end Go.Proofs.Ytommadcjemljcaa
