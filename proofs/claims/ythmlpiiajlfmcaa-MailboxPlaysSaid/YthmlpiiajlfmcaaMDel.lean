/- slices.Delete of one term, of a row of the call's own. -/
import Derived.Test.YthmlpiiajlfmcaaMNew
import Derived.Deep.RegionLaw
namespace Go.Proofs.Ythmlpiiajlfmcaa
open Go.RowKit
set_option linter.unusedVariables false

theorem run_clear_one (g o c : Nat) (l r : List Value) (v0 v1 v2 v3 : Value) (w : World) (ty : TypeId) (hg : Blk w g 35 (l ++ [v0, v1, v2, v3] ++ r).toArray) (ho : l.length = o) :
    (Builtin.clear_ #[23] ty #[.slice (some ⟨g, o, none⟩) 1 c]).run Try.prog w = .ok (.tuple #[]) (w.setRow g (l ++ zero4 ++ r).toArray) := by
  have hz : ∀ w, (zeroValue 35).run Try.prog w = .ok (.agg #[.int .i64 0, .int .i64 0, .string ⟨#[]⟩, .slice none 0 0]) w := Try.zeroValue35
  have hst := run_storeCells_at Try.prog g o 35 zero4 0 (l ++ [v0, v1, v2, v3] ++ r).toArray w hg (by simp [zero4]; omega) (by
    intro u hu
    simp only [zero4, List.mem_cons, List.mem_nil_iff, or_false] at hu
    rcases hu with rfl | rfl | rfl | rfl <;> rfl)
  have e1 : (l ++ [v0, v1, v2, v3] ++ r).take (o + 0) = l := by
    subst ho
    simp
  have e2 : (l ++ [v0, v1, v2, v3] ++ r).drop (o + 0 + zero4.length) = r := by
    subst ho
    simp [zero4]
  simp only [] at hst
  rw [e1, e2] at hst
  have e3 : (Builtin.zeroCells (Value.cells (.agg #[.int .i64 0, .int .i64 0, .string ⟨#[]⟩, .slice none 0 0])) 1).toList = zero4 := by kernel_rfl
  simp [Builtin.clear_, run_underlying Try.underlying23, hz, e3, hst]

set_option maxRecDepth 100000 in
set_option maxHeartbeats 2000000 in
theorem tdel_any (g n cap i : Nat) (xs ys tl : List Value) (m0 m1 m2 m3 : Value) (W : World) (hg : Blk W g 35 (xs ++ [m0, m1, m2, m3] ++ ys ++ tl).toArray) (hx : xs.length = i * 4) (hy : ys.length = (n - (i + 1)) * 4) (hi : i < n) (hn : n ≤ cap) (hc : cap ≤ 9223372036854775807) (h1 : ∀ u ∈ ys, u.oneCell' = true) :
    Calls Try.prog 29 #[.slice (some ⟨g, 0, none⟩) n cap, .int .i64 i, .int .i64 (((i + 1 : Nat)) : Int)] W fun e w' => e = .returned (.slice (some ⟨g, 0, none⟩) (n - 1) cap) ∧ Blk w' g 35 (xs ++ ys ++ zero4 ++ tl).toArray ∧ Fr (fun k => k = g) W w' := by
  obtain ⟨i0, hi0, hz0, hz1, hz2⟩ := info_parts termsT.info
  obtain ⟨A, hA, hsrc⟩ : ∃ A : Addr, (if cap = i + 1 then some (⟨g, 0, none⟩ : Addr) else some ⟨g, (i + 1) * 4, none⟩) = some A ∧ Hid (∀ t u, ys[t]? = some u → W.drew.cell? (A.add t) = some u) := by
    by_cases h : cap = i + 1
    · refine ⟨⟨g, 0, none⟩, by simp [h], fun t u hu => ?_⟩
      have h0 : ys.length = 0 := by rw [hy]; omega
      rw [List.length_eq_zero_iff.1 h0] at hu
      simp at hu
    · refine ⟨⟨g, (i + 1) * 4, none⟩, by simp [h], fun t u hu => ?_⟩
      have hlt : t < ys.length := (List.getElem?_eq_some_iff.1 hu).1
      rw [Addr.add_lit]
      show W.cell? _ = _
      rw [hg.cell]
      simp only [List.getElem?_toArray]
      rw [List.append_assoc, List.append_assoc, List.getElem?_append_right (by omega), show (i + 1) * 4 + t - xs.length = 4 + t by omega, List.getElem?_append_right (by simp), List.getElem?_append_left (by simpa using hlt)]
      simpa using hu
  have hgd : Blk W.drew g 35 (xs ++ [m0, m1, m2, m3] ++ ys ++ tl).toArray := hg.keep (Below.refl _ _).drew
  have hrun := run_append_room (P := Try.prog) W.drew 23 23 35 i0 Try.underlying23 hi0 g i cap (xs ++ [m0, m1, m2, m3] ++ ys ++ tl).toArray hgd A (n - (i + 1)) (cap - (i + 1)) ys (by rw [hz1]; exact hy) hsrc.out h1 (by omega) (by rw [hz1]; simp; omega)
  rw [hz1] at hrun
  -- what lies there behind the append
  obtain ⟨q, hq⟩ : ∃ q, (xs ++ [m0, m1, m2, m3] ++ ys ++ tl).take (i * 4) ++ ys ++ (xs ++ [m0, m1, m2, m3] ++ ys ++ tl).drop (i * 4 + ys.length) = xs ++ ys ++ q ++ tl ∧ q.length = 4 := by
    refine ⟨([m0, m1, m2, m3] ++ ys).drop ys.length, ?_, by simp; omega⟩
    have a1 : (xs ++ [m0, m1, m2, m3] ++ ys ++ tl).take (i * 4) = xs := by rw [← hx]; simp
    have a2 : (xs ++ [m0, m1, m2, m3] ++ ys ++ tl).drop (i * 4 + ys.length) = ([m0, m1, m2, m3] ++ ys).drop ys.length ++ tl := by
      rw [← hx, List.append_assoc, List.append_assoc, List.drop_length_add_append, ← List.append_assoc, List.drop_append_of_le_length (by simp; omega)]
    rw [a1, a2]
    simp [List.append_assoc]
  obtain ⟨hq, hq4⟩ := hq
  simp only [] at hrun
  rw [hq] at hrun
  obtain ⟨q0, q1, q2, q3, rfl⟩ : ∃ q0 q1 q2 q3, q = [q0, q1, q2, q3] := by
    match q, hq4 with
    | [a, b, c, d], _ => exact ⟨a, b, c, d, rfl⟩
  obtain ⟨V1, hV1⟩ : ∃ V1, V1 = W.drew.setRow g (xs ++ ys ++ [q0, q1, q2, q3] ++ tl).toArray := ⟨_, rfl⟩
  obtain ⟨b1, b2, b3⟩ := grown_setRow hgd (xs ++ ys ++ [q0, q1, q2, q3] ++ tl).toArray
  rw [← hV1] at hrun b1 b2
  obtain ⟨m, hm⟩ : ∃ m, m = i + (n - (i + 1)) := ⟨_, rfl⟩
  rw [← hm] at hrun
  have hmn : n - m = 1 := by omega
  have hm1 : m ≤ n := by omega
  have hm2 : m ≠ cap := by omega
  have hm3 : m ≤ cap := by omega
  have hcl : ∀ ty, (Builtin.clear_ #[23] ty #[.slice (some ⟨g, m * 4, none⟩) (n - m) (cap - m)]).run Try.prog V1 = .ok (.tuple #[]) (V1.setRow g (xs ++ ys ++ zero4 ++ tl).toArray) := fun ty => by
    rw [hmn]
    exact run_clear_one g (m * 4) _ (xs ++ ys) tl _ _ _ _ V1 ty b1 (by simp; omega)
  have HM := Lib.hid (show m = n - 1 by omega)
  have HEND := Lib.hid (show Blk (V1.setRow g (xs ++ ys ++ zero4 ++ tl).toArray) g 35 (xs ++ ys ++ zero4 ++ tl).toArray ∧ Fr (fun k => k = g) W (V1.setRow g (xs ++ ys ++ zero4 ++ tl).toArray) by
    obtain ⟨c1, c2, c3⟩ := grown_setRow b1 (xs ++ ys ++ zero4 ++ tl).toArray
    exact ⟨c1, ((Fr.refl _ W).drew.same (Fr.of_grown b2 (fun k e9 _ => (Option.some.inj e9).symm))).same (Fr.of_grown c2 (fun k e9 _ => (Option.some.inj e9).symm))⟩)
  obtain ⟨V2, hV2⟩ : ∃ V2, V2 = V1.setRow g (xs ++ ys ++ zero4 ++ tl).toArray := ⟨_, rfl⟩
  rw [← hV2] at hcl HEND
  have HRUN := Lib.hid hrun
  have hic : i ≤ cap := by omega
  have hjc : i + 1 ≤ cap := by omega
  have hjn : i + 1 ≤ n := by omega
  have hine : i ≠ i + 1 := by omega
  have y1 : (0 : Int) ≤ (i : Int) + 1 := by omega
  have y2 : (i : Int) + 1 ≤ (n : Int) := by omega
  clear hV2 hm hmn hg hgd hrun hV1 b1 b2 b3 hq hq4 h1 hx hy
  go_enter Try.func29, Try.ntmps29
  go_wp2_with (fail)
  go_region_law (refine step_app (by simp [Region.wanted]) (.tmp 22) (.tmp 25) 23 rfl (.slice (some ⟨g, 0, none⟩) i cap) (.slice (some A) (n - (i + 1)) (cap - (i + 1))) (.slice (some ⟨g, 0, none⟩) m cap) (by simp [Act.eval, Act.put]) (by simp [Act.eval, Act.put]) HRUN.out ?_)
  go_wp2
  go_ret
  exact ⟨by rw [HM.out]; rfl, HEND.out⟩
end Go.Proofs.Ythmlpiiajlfmcaa
