/- The walk of live of the statements of layer 8; the two calls as the laws use them. -/
import Derived.Test.YtommadcjemljcaaEncG
import Derived.Test.YtommadcjemljcaaTermY
import Derived.Deep.RegionHeld3
import Derived.Lib.SlBytesConst
import Derived.Lib.SmallJoins
namespace Go.Proofs.Ytommadcjemljcaa
open Go.RowKit
set_option linter.unusedVariables false

def Yes (w : World) (e : Ending) (w' : World) : Prop := e = .returned (.bool true) ∧ Below w.heap.size w w'

set_option maxHeartbeats 400000 in
theorem num_any (n : Int) (w : World) :
    Calls Try.prog 12 #[.int .i64 n] w fun e w' => e = .returned (.int .i64 n) ∧ w = w' := by
  go_enter Try.func12, Try.ntmps12
  go_wp2
  go_ret
  exact ⟨rfl, rfl⟩
set_option maxHeartbeats 400000 in
theorem tatom_any (s : ByteArray) (W : World) : Calls Try.prog 16 #[.string s] W fun e w' => e = .returned (.agg #[.int .i64 2, .int .i64 0, .string s, .slice none 0 0]) ∧ Below W.heap.size W w' := by
  go_enter Try.func16, Try.ntmps16
  go_wp2
  exact bodyPost_ret (v := .agg #[.int .i64 2, .int .i64 0, .string s, .slice none 0 0]) (by simp [results, Try.results16, go_sem]) rfl ⟨rfl, below_alloc _ _⟩
set_option maxHeartbeats 400000 in
theorem ttuple_any (A : Option Addr) (n c : Nat) (W : World) : Calls Try.prog 15 #[.slice A n c] W fun e w' => e = .returned (.agg #[.int .i64 6, .int .i64 0, .string ⟨#[]⟩, .slice A n c]) ∧ Below W.heap.size W w' := by
  go_enter Try.func15, Try.ntmps15
  go_wp2
  exact bodyPost_ret (v := .agg #[.int .i64 6, .int .i64 0, .string ⟨#[]⟩, .slice A n c]) (by simp [results, Try.results15, go_sem]) rfl ⟨rfl, below_alloc _ _⟩

theorem put_yes {l : List TV} {A : Option Addr} {len c : Nat} {W : World} (hlen : l.length = len) (hnm : TV.namedL l) (hR : RdM W A c l) (hk : checkP l = 0) :
    Calls Try.prog 8 #[.slice A len c] W fun r w' => ∃ A1 z c1, z = (putB l).length ∧ z ≤ c1 ∧ c1 ≤ 9223372036854775807 ∧ r = .returned (.tuple #[.slice A1 z c1, .int .i64 0]) ∧ Rd w' A1 (putB l) ∧ Below W.heap.size W w' :=
  (put_any l A len c W W hlen hnm (Below.refl _ _) hR).mono fun r w' ⟨hb, h⟩ => by
    rcases h with ⟨h, _⟩ | ⟨_, A1, c1, h, ho⟩
    · exact absurd hk h
    · obtain ⟨A2, c2, hv, hr2, _, hc⟩ := own_rd ho
      obtain ⟨rfl, _, rfl⟩ := Value.slice.inj hv
      refine ⟨A1, _, c1, rfl, hc, ?_, h, hr2, hb⟩
      rcases ho.2 with ⟨hv, _⟩ | ⟨g, cap', cur, hv, _, _, _, hcm, _, _⟩
      · obtain ⟨_, _, rfl⟩ := Value.slice.inj hv; omega
      · obtain ⟨_, _, rfl⟩ := Value.slice.inj hv; simp only [maxLen] at *; omega
theorem put_no {l : List TV} {A : Option Addr} {len c : Nat} {W : World} (hlen : l.length = len) (hnm : TV.namedL l) (hR : RdM W A c l) (hk : checkP l ≠ 0) :
    Calls Try.prog 8 #[.slice A len c] W fun r w' => r = .returned (.tuple #[.slice none 0 0, .int .i64 (checkP l : Nat)]) ∧ Below W.heap.size W w' :=
  (put_any l A len c W W hlen hnm (Below.refl _ _) hR).mono fun r w' ⟨hb, h⟩ => by
    rcases h with ⟨_, h⟩ | ⟨h, _⟩
    · exact ⟨h, hb⟩
    · exact absurd h hk
theorem putB_one {l m : List TV} {r r' : List UInt8} (h : checkP l = 0) (h' : checkP m = 0) (he : putB l ++ r = putB m ++ r') : l = m ∧ r = r' := by
  obtain ⟨a1, a2⟩ := check_ok h
  obtain ⟨b1, b2⟩ := check_ok h'
  exact putB_ud a2 b2 (by omega) (by omega) he
theorem get_yes {xs : List TV} {l : List UInt8} {A : Option Addr} {n c : Nat} {W : World} (hl : l.length = n) (hn : n ≤ 100000000) (hr : Rd W A l) (hk : checkP xs = 0) (hp : putB xs = l) :
    Calls Try.prog 10 #[.slice A n c] W fun r w' => ∃ A1 c1, r = .returned (.tuple #[.slice A1 xs.length c1, .int .i64 0]) ∧ RdM w' A1 c1 xs ∧ Below W.heap.size W w' :=
  (get_any A l n c W hl hn hr).mono fun r w' ⟨hb, h⟩ => by
    rcases h with ⟨ys, A1, c1, hy, hpy, hr, hm⟩ | ⟨h, _⟩
    · obtain ⟨rfl, _⟩ := putB_one (r := []) (r' := []) hk hy (by rw [hp, hpy])
      exact ⟨A1, c1, hr, hm, hb⟩
    · exact absurd hp (h xs hk)
theorem get_no {l : List UInt8} {A : Option Addr} {n c : Nat} {W : World} (hl : l.length = n) (hn : n ≤ 100000000) (hr : Rd W A l) (hk : ∀ xs, checkP xs = 0 → putB xs ≠ l) :
    Calls Try.prog 10 #[.slice A n c] W fun r w' => r = .returned (.tuple #[.slice none 0 0, .int .i64 80]) ∧ Below W.heap.size W w' :=
  (get_any A l n c W hl hn hr).mono fun r w' ⟨hb, h⟩ => by
    rcases h with ⟨ys, A1, c1, hy, hpy, hr, hm⟩ | ⟨_, h⟩
    · exact absurd hpy (hk ys hy)
    · exact ⟨h, hb⟩

theorem rdb_new (w : World) (l : List UInt8) (t : Nat) (fr : Nat × Nat) : Rd (w.alloc (.cells (l.map bv).toArray t fr)) (some ⟨w.heap.size, 0, none⟩) l := by
  refine .inr ⟨w.heap.size, 0, rfl, fun j hj => ?_⟩
  rw [cell_of_row _ w.heap.size (0 + j) (l.map bv).toArray t fr (heap_alloc_new w _)]
  simp [hj]

/-- The term of live. -/
def tl1 : List TV := [.mk 2 0 [97] [], .mk 1 5 [] []]
def tl0 : TV := .mk 6 0 [] tl1
theorem tl0_check : checkP [tl0] = 0 := by kernel_rfl
theorem tl0_put : putB [tl0] = [1, 1, 6, 1, 2, 2, 1, 1, 97, 1, 1, 5] := by kernel_rfl
theorem tl0_named : TV.namedL [tl0] := by simp [TV.namedL, tl0, tl1, TV.named]
theorem tl1_at {V : World} {g : Nat} (h : Blk V g 39 #[.int .i64 2, .int .i64 0, .string ⟨#[97]⟩, .slice none 0 0, .int .i64 1, .int .i64 5, .string ⟨#[]⟩, .slice none 0 0]) : RdM V (some ⟨g, 0, none⟩) 2 tl1 := by
  refine ⟨by simp [tl1], by omega, .inr ⟨g, 0, rfl, ?_⟩⟩
  simp only [TV.Row, tl1, and_true]
  exact ⟨(TV.at_iff _ _ _).2 ⟨h.cell 0, h.cell 1, h.cell 2, none, 0, h.cell 3, ⟨Nat.le_refl _, by omega, .inl rfl⟩⟩, (TV.at_iff _ _ _).2 ⟨h.cell 4, h.cell 5, h.cell 6, none, 0, h.cell 7, ⟨Nat.le_refl _, by omega, .inl rfl⟩⟩⟩
theorem tl0_at {V : World} {g : Nat} {A : Option Addr} (hR : RdM V A 2 tl1) (h : Blk V g 39 #[.int .i64 6, .int .i64 0, .string ⟨#[]⟩, .slice A 2 2]) : RdM V (some ⟨g, 0, none⟩) 1 [tl0] := by
  refine ⟨by simp, by omega, .inr ⟨g, 0, rfl, ?_⟩⟩
  simp only [TV.Row, and_true]
  exact (TV.at_iff _ _ _).2 ⟨h.cell 0, h.cell 1, h.cell 2, A, 2, h.cell 3, hR⟩
theorem bad_live : ∀ xs, checkP xs = 0 → putB xs ≠ [1, 1, 9] := by
  intro xs hk he
  obtain ⟨hp, hL⟩ := check_ok hk
  have hlp := len_parts xs
  obtain ⟨h1, _, h2⟩ := laidB_ud (n := xs.length) (n' := 1) (m := 0) (m' := 0) (r := layTs xs) (r' := [9]) (by omega) (by omega) (.inl rfl) (.inl rfl) (by
    rw [show laidB 1 0 ++ [9] = [1, 1, 9] by kernel_rfl]; exact he)
  obtain ⟨x, rfl⟩ : ∃ x, xs = [x] := by
    match xs, h1 with
    | [x], _ => exact ⟨x, rfl⟩
  obtain ⟨k, n, s, l⟩ := x
  simp only [layTs, layT, List.append_nil] at h2
  simp only [TV.isL, TV.isT, Bool.and_true, Bool.and_eq_true] at hL
  have hc := head_cases hL.1
  unfold layH at h2
  simp only [List.cons_append, List.cons.injEq] at h2
  have h9 : UInt8.ofNat k.toNat = UInt8.ofNat 9 := h2.1
  have hk9 : k.toNat = 9 := u8_small (by omega) (by omega) h9
  omega

set_option maxRecDepth 100000 in
set_option maxHeartbeats 2000000 in
theorem live_any (w : World) : Calls Try.prog 7 #[] w (Yes w) := by
  have hbw : Below w.heap.size w w := Below.refl _ _
  have HATOM : Hid (∀ s V, Below w.heap.size w V → Calls Try.prog 16 #[.string s] V fun e w' => e = .returned (.agg #[.int .i64 2, .int .i64 0, .string s, .slice none 0 0]) ∧ Below w.heap.size w w') := fun s V h => (tatom_any s V).mono fun e w' ⟨he, hb⟩ => ⟨he, below_step h hb⟩
  have HINT : Hid (∀ n V, Below w.heap.size w V → Calls Try.prog 17 #[.int .i64 n] V fun e w' => e = .returned (.agg #[.int .i64 1, .int .i64 n, .string ⟨#[]⟩, .slice none 0 0]) ∧ Below w.heap.size w w') := fun n V h => (tint_any n V).mono fun e w' ⟨he, hb⟩ => ⟨he, below_step h hb⟩
  go_enter Try.func7, Try.ntmps7
  go_upto_region 2 with (first
    | (go_at_call 16; refine (HATOM.out _ _ hbw).mono ?_; clear hbw; rintro e w' ⟨rfl, hbw⟩)
    | (go_at_call 17; refine (HINT.out _ _ hbw).mono ?_; clear hbw; rintro e wi ⟨rfl, hbw⟩)
    | (go_at_call 15; refine (ttuple_any _ _ _ _).mono ?_; rintro e wt ⟨rfl, hbt⟩))
  have hbw2 : Below w.heap.size w wt := below_step (below_step hbw (below_alloc _ _)) hbt
  have hA1 : RdM wt (some ⟨wi.heap.size, 0, none⟩) 2 tl1 := (tl1_at (Blk.new _ _ _)).below hbt
  refine wp_world (fun V => Below w.heap.size w V ∧ RdM V (some ⟨wi.heap.size, 0, none⟩) 2 tl1 ∧ Blk V wt.heap.size 39 #[.int .i64 6, .int .i64 0, .string ⟨#[]⟩, .slice (some ⟨wi.heap.size, 0, none⟩) 2 2]) ⟨below_step hbw2 (below_alloc _ _), hA1.below (below_alloc _ _), Blk.new _ _ _⟩ ?_
  obtain ⟨g1, hg1⟩ : ∃ g1, wi.heap.size = g1 := ⟨_, rfl⟩
  obtain ⟨g2, hg2⟩ : ∃ g2, wt.heap.size = g2 := ⟨_, rfl⟩
  rw [hg1, hg2]
  clear hbw hbt hbw2 hA1 hg1 hg2 HATOM HINT
  rintro V1 ⟨hb1, hm1, hk1⟩
  have HPUT := Lib.hid (put_yes (l := [tl0]) (A := some ⟨V1.heap.size, 0, none⟩) (len := 1) (c := 1) (W := V1.alloc (.cells #[.int .i64 6, .int .i64 0, .string ⟨#[]⟩, .slice (some ⟨g1, 0, none⟩) 2 2] 39)) rfl tl0_named (tl0_at (hm1.below (below_alloc _ _)) (Blk.new _ _ _)) tl0_check)
  rw [tl0_put] at HPUT
  have c0 := hk1.cell 0
  have c1 := hk1.cell 1
  have c2 := hk1.cell 2
  have c3 := hk1.cell 3
  go_upto_region 3 with (go_at_call 8; refine HPUT.out.mono ?_; rintro r V2 ⟨A2, z, cb, rfl, hz1, hz2, rfl, hr2, hb2⟩)
  have hb2' := (below_alloc V1 _).trans (hb2.mono (by simp : V1.heap.size ≤ _))
  refine wp_world (fun V => Below w.heap.size w V ∧ RdM V (some ⟨g1, 0, none⟩) 2 tl1 ∧ Blk V g2 39 #[.int .i64 6, .int .i64 0, .string ⟨#[]⟩, .slice (some ⟨g1, 0, none⟩) 2 2] ∧ Rd V A2 [1, 1, 6, 1, 2, 2, 1, 1, 97, 1, 1, 5]) ⟨below_step hb1 hb2', hm1.below hb2', hk1.keep hb2', hr2⟩ ?_
  clear hb1 hm1 hk1 HPUT c0 c1 c2 c3 hr2 hb2 hb2' hz1 hz2
  rintro V3 ⟨hb3, hm3, hk3, hr3⟩
  have HGET := Lib.hid (get_yes (xs := [tl0]) (n := 12) (c := cb) rfl (by omega) hr3 tl0_check tl0_put)
  have hs3 := hb3.size
  go_upto_region 4 with (go_at_call 10; refine HGET.out.mono ?_; rintro r V4 ⟨A4, c4, rfl, hr4, hb4⟩)
  refine wp_world (fun V => Below w.heap.size w V ∧ RdM V (some ⟨g1, 0, none⟩) 2 tl1 ∧ Blk V g2 39 #[.int .i64 6, .int .i64 0, .string ⟨#[]⟩, .slice (some ⟨g1, 0, none⟩) 2 2] ∧ Rd V A2 [1, 1, 6, 1, 2, 2, 1, 1, 97, 1, 1, 5] ∧ RdM V A4 c4 [tl0]) ⟨below_step hb3 hb4, hm3.below hb4, hk3.keep hb4, hr3.below hb4, hr4⟩ ?_
  clear hb3 hm3 hk3 hr3 HGET hr4 hb4 hs3
  rintro V5 ⟨hb5, hm5, hk5, hr5, ht5⟩
  have HGET := Lib.hid (get_no (l := [1, 1, 9]) (A := some ⟨V5.heap.size, 0, none⟩) (n := 3) (c := 3) (W := V5.alloc (.cells #[.int .u8 1, .int .u8 1, .int .u8 9] 5)) rfl (by omega) (rdb_new V5 [1, 1, 9] _ _) bad_live)
  go_upto_region 5 with (go_at_call 10; refine HGET.out.mono ?_; rintro r V6 ⟨rfl, hb6⟩)
  have hb6' := (below_alloc V5 _).trans (hb6.mono (by simp : V5.heap.size ≤ _))
  refine wp_world (fun V => Below w.heap.size w V ∧ RdM V (some ⟨g1, 0, none⟩) 2 tl1 ∧ Blk V g2 39 #[.int .i64 6, .int .i64 0, .string ⟨#[]⟩, .slice (some ⟨g1, 0, none⟩) 2 2] ∧ Rd V A2 [1, 1, 6, 1, 2, 2, 1, 1, 97, 1, 1, 5] ∧ RdM V A4 c4 [tl0]) ⟨below_step hb5 hb6', hm5.below hb6', hk5.keep hb6', hr5.below hb6', ht5.below hb6'⟩ ?_
  clear hb5 hm5 hk5 hr5 ht5 HGET hb6 hb6'
  rintro X ⟨hb7, hm7, hk7, hr7, ht7⟩
  have HROWS : Hid (∀ V g, Below X.heap.size X V → Blk V g 39 #[.int .i64 6, .int .i64 0, .string ⟨#[]⟩, .slice (some ⟨g1, 0, none⟩) 2 2] → Calls Try.prog 13 #[.slice A4 1 c4, .slice (some ⟨g, 0, none⟩) 1 1] V fun e w' => e = .returned (.bool true) ∧ Below X.heap.size X w') := fun V g hb hB =>
    (rows_any [tl0] [tl0] A4 1 c4 (some ⟨g, 0, none⟩) 1 1 V V rfl rfl (Below.refl _ _) (ht7.below hb) (tl0_at (hm7.below hb) hB)).mono fun e w' ⟨he, h⟩ => ⟨by rw [he, rowsB_self], below_step hb h⟩
  have HS : Hid (∀ V, Below X.heap.size X V → (V.cell? ⟨g2, 0, none⟩ = some (.int .i64 6) ∧ V.cell? ⟨g2, 1, none⟩ = some (.int .i64 0) ∧ V.cell? ⟨g2, 2, none⟩ = some (.string ⟨#[]⟩) ∧ V.cell? ⟨g2, 3, none⟩ = some (.slice (some ⟨g1, 0, none⟩) 2 2) ∧ (convert 23 9 (.slice A2 12 cb)).run Try.prog V = .ok (.string ⟨#[1, 1, 6, 1, 2, 2, 1, 1, 97, 1, 1, 5]⟩) V) ∧ Below X.heap.size X V) := fun V hb => ⟨⟨(hk7.keep hb).cell 0, (hk7.keep hb).cell 1, (hk7.keep hb).cell 2, (hk7.keep hb).cell 3, run_str (P := Try.prog) Try.underlying23 Try.underlying5 Try.underlying9 V A2 12 cb [1, 1, 6, 1, 2, 2, 1, 1, 97, 1, 1, 5] rfl (hr7.below hb)⟩, hb⟩
  have HX := Lib.hid hb7
  clear hm7 hk7 hr7 ht7 hb7
  obtain ⟨⟨c0, c1, c2, c3, hst⟩, hbX⟩ := HS.out X (Below.refl _ _)
  clear HS
  go_wp2_with (first
    | (go_at_call 12; refine (num_any _ _).mono ?_; rintro e w' ⟨rfl, rfl⟩)
    | (go_at_call 13; refine (HROWS.out _ _ (below_alloc _ _) (Blk.new _ _ _)).mono ?_; rintro e w' ⟨rfl, hb9⟩))
  go_ret
  exact ⟨rfl, below_step HX.out hb9⟩
theorem live_from {w W : World} (h : Below w.heap.size w W) : Calls Try.prog 7 #[] W (Yes w) :=
  (live_any W).mono fun e w' ⟨he, hb⟩ => ⟨he, below_step h hb⟩
end Go.Proofs.Ytommadcjemljcaa
