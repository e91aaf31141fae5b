/- The walk of EncodeCut. -/
import Derived.Test.YtommadcjemljcaaEncX
namespace Go.Proofs.Ytommadcjemljcaa
open Go.RowKit
set_option linter.unusedVariables false

theorem cut_more {l : List TV} (h : checkP l = 0) (m : UInt8) : ∀ xs, checkP xs = 0 → putB xs ≠ putB l ++ [m] := by
  intro xs hx he
  have := (putB_one (r := []) (r' := [m]) hx h (by rw [List.append_nil]; exact he)).2
  cases this
theorem cut_less {l : List TV} (h : checkP l = 0) {k : Nat} (hk : k < (putB l).length) : ∀ xs, checkP xs = 0 → putB xs ≠ (putB l).take k := by
  intro xs hx he
  have h2 := (putB_one (l := xs) (m := l) (r := (putB l).drop k) (r' := []) hx h (by rw [he, List.append_nil, List.take_append_drop])).2
  have := congrArg List.length h2
  rw [List.length_drop] at this
  simp at this
  omega
theorem rd_take {V : World} {A : Option Addr} {l : List UInt8} (h : Rd V A l) (k : Nat) : Rd V A (l.take k) := by
  rcases h with rfl | ⟨b, off, hA, hc⟩
  · exact .inl (by simp)
  · refine .inr ⟨b, off, hA, fun j hj => ?_⟩
    rw [List.length_take] at hj
    rw [hc j (by omega)]
    simp

set_option maxRecDepth 100000 in
set_option maxHeartbeats 2000000 in
theorem ecut_in (l : List TV) (A : Option Addr) (len c : Nat) (cut : Int) (m : Nat) (w : World) (hlen : l.length = len) (hnm : TV.namedL l) (hR : RdM w A c l) (h1 : len ≤ 5000) (hk : checkP l = 0) (hz : (putB l).length ≤ 20000) (hm : m < 256) :
    Calls Try.prog 6 #[.slice A len c, .int .i64 cut, .int .u8 m] w (Yes w) := by
  have HPUT := Lib.hid (put_yes hlen hnm hR hk)
  have HMORE := Lib.hid (cut_more hk (UInt8.ofNat m))
  have HLESS := Lib.hid (fun k (h : k < (putB l).length) => cut_less hk h)
  have hbm : Value.int .u8 (m : Int) = bv (UInt8.ofNat m) := by
    simp only [bv]
    rw [UInt8.toNat_ofNat_of_lt' hm]
  have HBM := Lib.hid hbm
  have HONE : Hid (∀ V : World, Cs (V.alloc (.cells #[.int .u8 m] 5)) (some ⟨V.heap.size, 0, none⟩) [bv (UInt8.ofNat m)]) := fun V => by rw [hbm]; exact blk_cs (xs := [bv (UInt8.ofNat m)]) (Blk.new V _ _)
  clear hlen hnm hk hR hbm
  generalize putB l = b at *
  have hd5 : decide (5000 < len) = false := by simp; omega
  go_enter Try.func6, Try.ntmps6
  go_upto_region 4 with (go_at_call 8; refine HPUT.out.mono ?_; rintro r V1 ⟨A1, z, c1, hzl, hz1, hz2, rfl, hr1, hb1⟩; have HZ : Hid (z ≤ 20000 ∧ b.length = z) := ⟨by omega, hzl.symm⟩; clear hzl)
  clear HPUT
  have hz3 : z ≤ 20000 := HZ.out.1
  have hd2 : decide (20000 < z) = false := by simp; omega
  refine wp_world (fun V => Below w.heap.size w V ∧ Rd V A1 b) ⟨hb1, hr1⟩ ?_
  clear hb1 hr1 hz
  rintro V2 ⟨hb2, hr2⟩
  go_upto_region 6 with (go_at_call 12; refine (num_any _ _).mono ?_; rintro e w' ⟨rfl, rfl⟩)
  have H0 : Hid ((V2.alloc (.cells #[] 5)).ownsRow V2.heap.size 5 1 (.slice (some ⟨V2.heap.size, 0, none⟩) 0 0) 0 [] ∧ Cs (V2.alloc (.cells #[] 5)) A1 (b.map bv)) :=
    ⟨own_made _ _ _ (Nat.le_refl _), (hr2.below (below_alloc _ _)).cs⟩
  have hone := bvs_one b
  have hone2 := bvs_one [UInt8.ofNat m]
  have HLM := Lib.hid (show (b.map bv).length = z * 1 by rw [List.length_map, HZ.out.2]; omega)
  have hmx : 0 + z ≤ maxLen := by simp only [maxLen]; omega
  have hmx2 : z + 1 ≤ maxLen := by simp only [maxLen]; omega
  have hbx : (0 + z) * 1 ≤ 140737488355328 := by omega
  have hbx2 : (z + 1) * 1 ≤ 140737488355328 := by omega
  have hbs : V2.heap.size ≤ (V2.alloc (.cells #[] 5)).heap.size := by simp
  go_upto_region 7 with (first
    | (at_builtin; refine wpList_app bytesT rfl (.tmp 32) (.tmp 33) rfl V2.heap.size (.slice (some ⟨V2.heap.size, 0, none⟩) 0 0) 0 [] rfl H0.out.1 A1 z c1 (b.map bv) rfl HLM.out H0.out.2 hone hmx hbx hbs ?_; intro v3 w3 hown3 hgr3 _; simp only [Nat.zero_add, List.nil_append] at hown3; obtain ⟨A3, c3, rfl, _, _, _⟩ := own_rd hown3; have hb3 : Below V2.heap.size V2 w3 := (below_alloc V2 _).grown hgr3 (by simp) (fun k hk => (World.ownsRow.lt H0.out.1 k hk).1); clear hgr3)
    | (at_builtin; refine wpList_app bytesT rfl (.tmp 34) (.tmp 36) rfl V2.heap.size (.slice A3 z c3) z (b.map bv) rfl (own_far hown3 (below_alloc w3 _)) (some ⟨w3.heap.size, 0, none⟩) 1 1 [bv (UInt8.ofNat m)] rfl rfl (HONE.out w3) hone2 hmx2 hbx2 (hb3.alloc hb3.size _).size ?_; intro v4 w4 hown4 hgr4 _; rw [show b.map bv ++ [bv (UInt8.ofNat m)] = (b ++ [UInt8.ofNat m]).map bv by simp] at hown4; obtain ⟨A4, c4, rfl, hr4, hl4, _⟩ := own_rd hown4; have hb4 : Below V2.heap.size V2 w4 := (hb3.alloc hb3.size _).grown hgr4 (hb3.alloc hb3.size _).size (fun k hk => (World.ownsRow.lt hown3 k hk).1); clear hgr4)
    | (go_at_call 10; refine (get_no hl4 (by omega) hr4 HMORE.out).mono ?_; rintro r w5 ⟨rfl, hb5⟩))
  have hb6 : Below V2.heap.size V2 w5 := below_step hb4 hb5
  refine wp_world (fun V => Below w.heap.size w V ∧ Rd V A1 b) ⟨below_step hb2 hb6, hr2.below hb6⟩ ?_
  clear hb2 hr2 hb3 hb4 hb5 hb6 hown3 hown4 hr4 hl4 H0 hone hone2 HLM
  rintro V7 ⟨hb7, hr7⟩
  have hways : cut < 0 ∨ (¬ cut < 0 ∧ (z : Int) ≤ cut) ∨ ∃ k : Nat, cut = (k : Int) ∧ k < z := by
    by_cases g : cut < 0
    · exact .inl g
    · by_cases g2 : (z : Int) ≤ cut
      · exact .inr (.inl ⟨g, g2⟩)
      · obtain ⟨k, rfl⟩ := Int.eq_ofNat_of_zero_le (show (0 : Int) ≤ cut by omega)
        exact .inr (.inr ⟨k, rfl, by omega⟩)
  rcases hways with g | ⟨g, g2⟩ | ⟨k, rfl, hkz⟩
  · have hd7 : decide (cut < 0) = true := by simpa using g
    go_wp2_with (first
      | (go_at_call 12; refine (num_any _ _).mono ?_; rintro e w' ⟨rfl, rfl⟩)
      | (go_at_call 7; refine (live_from hb7).mono ?_; rintro e w8 ⟨rfl, hb8⟩))
    go_ret
    exact ⟨rfl, hb8⟩
  · have hd7 : decide (cut < 0) = false := by simpa using g
    have hd8 : decide ((z : Int) ≤ cut) = true := by simpa using g2
    go_wp2_with (first
      | (go_at_call 12; refine (num_any _ _).mono ?_; rintro e w' ⟨rfl, rfl⟩)
      | (go_at_call 7; refine (live_from hb7).mono ?_; rintro e w8 ⟨rfl, hb8⟩))
    go_ret
    exact ⟨rfl, hb8⟩
  · have hd7 : decide ((k : Int) < 0) = false := by rw [decide_eq_false_iff_not]; omega
    have hd8 : decide (z ≤ k) = false := by simp; omega
    have u2 : (k : Int) ≤ (c1 : Int) := by omega
    have HGET := Lib.hid (get_no (l := b.take k) (n := k) (c := c1) (by rw [List.length_take, HZ.out.2]; omega) (by omega) (rd_take hr7 k) (HLESS.out k (by rw [HZ.out.2]; exact hkz)))
    clear hr7
    go_wp2_with (first
      | (go_at_call 12; refine (num_any _ _).mono ?_; rintro e w' ⟨rfl, rfl⟩)
      | (go_at_call 10; refine HGET.out.mono ?_; rintro r w8 ⟨rfl, hb8⟩)
      | (go_at_call 7; refine (live_from (below_step hb7 hb8)).mono ?_; rintro e w9 ⟨rfl, hb9⟩))
    go_ret
    exact ⟨rfl, hb9⟩

set_option maxRecDepth 100000 in
set_option maxHeartbeats 2000000 in
theorem ecut_any (l : List TV) (A : Option Addr) (len c : Nat) (cut : Int) (m : Nat) (w : World) (hlen : l.length = len) (hnm : TV.namedL l) (hR : RdM w A c l) (hm : m < 256) :
    Calls Try.prog 6 #[.slice A len c, .int .i64 cut, .int .u8 m] w (Yes w) := by
  have hlc : len ≤ 9223372036854775807 := by have := hR.1; have := hR.2.1; omega
  by_cases h1 : 5000 < len
  · have hd5 : decide (5000 < len) = true := by simpa using h1
    clear hlen hnm hR
    go_enter Try.func6, Try.ntmps6
    go_wp2_with (go_at_call 7; refine (live_any w).mono ?_; rintro e w9 ⟨rfl, hb9⟩)
    go_ret
    exact ⟨rfl, hb9⟩
  have hd5 : decide (5000 < len) = false := by simpa using h1
  by_cases hk : checkP l = 0
  rotate_left
  · have HPUT := Lib.hid (put_no hlen hnm hR hk)
    obtain ⟨ck, hcke⟩ : ∃ ck, checkP l = ck := ⟨_, rfl⟩
    rw [hcke] at HPUT hk
    have hd : ((ck : Int) != 0) = true := by rw [bne_iff_ne]; omega
    clear hlen hnm hR hk hcke
    go_enter Try.func6, Try.ntmps6
    go_wp2_with (first
      | (go_at_call 8; refine HPUT.out.mono ?_; rintro r V1 ⟨rfl, hb1⟩)
      | (go_at_call 12; refine (num_any _ _).mono ?_; rintro e w' ⟨rfl, rfl⟩)
      | (go_at_call 7; refine (live_from hb1).mono ?_; rintro e w9 ⟨rfl, hb9⟩))
    go_ret
    exact ⟨rfl, hb9⟩
  by_cases hz : (putB l).length ≤ 20000
  · exact ecut_in l A len c cut m w hlen hnm hR (by omega) hk hz hm
  · have HPUT := Lib.hid (put_yes hlen hnm hR hk)
    have hpl := putB_len hk
    clear hlen hnm hR hk
    generalize putB l = b at *
    go_enter Try.func6, Try.ntmps6
    go_upto_region 4 with (go_at_call 8; refine HPUT.out.mono ?_; rintro r V1 ⟨A1, z, c1, hzl, hz1, hz2, rfl, hr1, hb1⟩; have hz8 : (20000 : Int) < (z : Int) := (by omega); have hd2 : decide (20000 < z) = true := (by simp; omega); have hz9 : z ≤ 2000000 := (by omega); clear hzl)
    clear hz
    go_wp2_with (first
      | (go_at_call 12; refine (num_any _ _).mono ?_; rintro e w' ⟨rfl, rfl⟩)
      | (go_at_call 7; refine (live_from hb1).mono ?_; rintro e w9 ⟨rfl, hb9⟩))
    go_ret
    exact ⟨rfl, hb9⟩
end Go.Proofs.Ytommadcjemljcaa
