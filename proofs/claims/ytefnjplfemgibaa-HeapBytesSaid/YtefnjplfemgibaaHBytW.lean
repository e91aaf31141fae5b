/- Heap (layer 9): HeapBytes, the walk. -/
import Derived.Test.YtefnjplfemgibaaHpT
import Derived.Test.YtefnjplfemgibaaHpU
import Derived.Test.YtefnjplfemgibaaHpV
namespace Go.Proofs.Ytefnjplfemgibaa
open Go.RowKit
set_option linter.unusedVariables false

section
variable {w W V V' : World} {Aw Aa Ar : Option Addr} {lw cw la ca lr cr : Nat} {ws rs : List Nat} {nm : List (List UInt8)}
theorem rd_takeH {V : World} {A : Option Addr} {l : List UInt8} (h : Rd V A l) (k : Nat) : Rd V A (l.take k) := by
  rcases h with rfl | ⟨b, off, hA, hc⟩
  · exact .inl (by simp)
  · refine .inr ⟨b, off, hA, fun j hj => ?_⟩
    rw [List.length_take] at hj
    rw [hc j (by omega)]
    simp
theorem hrd_nil (V : World) : HRd V none 0 0 none 0 0 none 0 0 [] [] [] := { w := .inl rfl, a := .inl rfl, r := .inl rfl, hlw := rfl, hla := rfl, hlr := rfl, hcw := by omega, hca := by omega, hcr := by omega, w64 := (by intro x hx; cases hx), r64 := (by intro x hx; cases hx) }
theorem sameH_refl (ws rs : List Nat) (nm : List (List UInt8)) : sameH ws rs nm ws rs nm = true := by simp [sameH]
theorem textSum_mem {l : List (List UInt8)} {s : List UInt8} (h : s ∈ l) : s.length ≤ textSum l := by
  induction l with
  | nil => cases h
  | cons a r ih =>
    have e : textSum (a :: r) = a.length + textSum r := by simp [textSum]
    rcases List.mem_cons.1 h with rfl | h
    · omega
    · have := ih h; omega
theorem putP_len {ws rs : List Nat} {nm : List (List UInt8)} (h1 : nm.length ≤ 5000) (h2 : ws.length ≤ 5000) (h3 : rs.length ≤ 5000) (h4 : textSum nm ≤ 20000) : (putP ws nm rs).length ≤ 200000 := by
  have a1 := laidL_len ws
  have a2 := laidL_len rs
  have a3 := laidSs_len nm
  have a4 := laidB_len ws.length 0
  have a5 := laidB_len nm.length 0
  have a6 := laidB_len rs.length 0
  have b4 := wid_le ws.length
  have b5 := wid_le nm.length
  have b6 := wid_le rs.length
  rw [putP_eq]
  simp only [List.length_append]
  omega
set_option maxRecDepth 100000 in
set_option maxHeartbeats 4000000 in
theorem bytes_in (cut : Int) (x : Nat) (w : World) (h : HRd w Aw lw cw Aa la ca Ar lr cr ws nm rs) (hs : ∀ s ∈ nm, s.length ≤ 140737488351232) (hx : x < 256) :
    Calls Try.prog 5 #[.agg #[.slice Aw lw cw, .slice Aa la ca, .slice Ar lr cr], .int .i64 cut, .int .u8 x] w (Yes w) := by
  have HSM := Lib.hid (fun V (hV : Below w.heap.size w V) => small_v V (h.below hV) hs)
  obtain ⟨g, hg⟩ : ∃ g, w.heap.size = g := ⟨_, rfl⟩
  have HG := Lib.hid hg
  by_cases hsm : smallH ws nm rs = true
  rotate_left
  · rw [eq_false_of_ne_true hsm] at HSM
    clear h hs hsm
    go_enter Try.func5, Try.ntmps5
    go_upto_region 1 with (fail)
    refine wp_world (fun V => Below w.heap.size w V ∧ Blk V g 29 #[.slice Aw lw cw, .slice Aa la ca, .slice Ar lr cr]) ⟨below_alloc _ _, by rw [← HG.out]; exact Blk.new _ _ _⟩ ?_
    rintro V0 ⟨hb, hk⟩
    have HB0 := Lib.hid hb
    have x0 := hk.cell 0
    have x1 := hk.cell 1
    have x2 := hk.cell 2
    clear hb hk hg
    go_wp2_with (first
      | (go_at_call 14; refine (HSM.out V0 HB0.out).mono ?_; rintro e w1 ⟨rfl, hb1⟩)
      | (go_at_call 10; refine (live_from (below_step HB0.out hb1)).mono ?_; rintro e w9 ⟨rfl, hb9⟩))
    go_ret
    exact ⟨rfl, hb9⟩
  rw [hsm] at HSM
  obtain ⟨k1, k2, k3, k4⟩ := of_decide_eq_true hsm
  clear hsm
  have HP := Lib.hid (putP_len k1 k2 k3 k4)
  have hs64 : ∀ s ∈ nm, s.length < 18446744073709551616 := fun s h9 => by have := hs s h9; omega
  have HGP := Lib.hid (get_put h.w64 h.r64 (by omega) (by omega) (by omega) (by omega) hs64)
  have HGM := Lib.hid (get_more h.w64 h.r64 (by omega) (by omega) (by omega) hs64 (UInt8.ofNat x))
  have HGC : Hid (∀ k, k < (putP ws nm rs).length → getP ((putP ws nm rs).take k) = none) := Lib.hid fun k hk => get_cut h.w64 h.r64 (by omega) (by omega) (by omega) hs64 hk
  have bw : lw ≤ 5000 := by rw [← h.hlw]; exact k2
  have ba : la ≤ 5000 := by rw [← h.hla]; exact k1
  have br : lr ≤ 5000 := by rw [← h.hlr]; exact k3
  have HPUT : Hid (∀ V, Below w.heap.size w V → _) := Lib.hid fun V (hV : Below w.heap.size w V) => hput_v V (h.below hV) ⟨by omega, by omega, by omega⟩ (by omega)
  have HSAME : Hid (∀ V (_ : Below w.heap.size w V) (Bw : Option Addr) (dw : Nat) (Ba : Option Addr) (da : Nat) (Br : Option Addr) (dr : Nat), HRd V Bw lw dw Ba la da Br lr dr ws nm rs → Calls Try.prog 19 #[.agg #[.slice Bw lw dw, .slice Ba la da, .slice Br lr dr], .agg #[.slice Aw lw cw, .slice Aa la ca, .slice Ar lr cr]] V fun e w' => e = .returned (.bool true) ∧ Below V.heap.size V w') := Lib.hid fun V hV Bw dw Ba da Br dr hB => by
    have h9 := rSame_v V hB (h.below hV) ⟨by omega, by omega, by omega⟩ ⟨by omega, by omega, by omega⟩
    rw [sameH_refl] at h9
    exact h9
  have HLN := Lib.hid (And.intro h.hlw (And.intro h.hla h.hlr))
  have hbm : Value.int .u8 (x : Int) = bv (UInt8.ofNat x) := by
    simp only [bv]
    rw [UInt8.toNat_ofNat_of_lt' hx]
  have HONE : Hid (∀ V : World, Cs (V.alloc (.cells #[.int .u8 x] 5)) (some ⟨V.heap.size, 0, none⟩) [bv (UInt8.ofNat x)]) := Lib.hid fun V => by rw [hbm]; exact blk_cs (xs := [bv (UInt8.ofNat x)]) (Blk.new V _ _)
  clear h hs hs64 hbm k1 k2 k3 k4
  obtain ⟨P, hP⟩ : ∃ P, putP ws nm rs = P := ⟨_, rfl⟩
  rw [hP] at HP HGP HGM HGC HPUT
  clear hP
  obtain ⟨z, hz⟩ : ∃ z, P.length = z := ⟨_, rfl⟩
  rw [hz] at HP HGC HPUT
  have HZ := Lib.hid hz
  have hz3 : z ≤ 200000 := HP.out
  clear hz
  go_enter Try.func5, Try.ntmps5
  go_upto_region 1 with (fail)
  refine wp_world (fun V => Below w.heap.size w V ∧ Blk V g 29 #[.slice Aw lw cw, .slice Aa la ca, .slice Ar lr cr]) ⟨below_alloc _ _, by rw [← HG.out]; exact Blk.new _ _ _⟩ ?_
  rintro V0 ⟨hb, hk⟩
  have HB0 := Lib.hid hb
  have HK0 := Lib.hid hk
  have x0 := hk.cell 0
  have x1 := hk.cell 1
  have x2 := hk.cell 2
  clear hb hk hg
  go_upto_region 3 with (go_at_call 14; refine (HSM.out V0 HB0.out).mono ?_; rintro e w1 ⟨rfl, hb1⟩)
  refine wp_world (fun V => Below w.heap.size w V ∧ Blk V g 29 #[.slice Aw lw cw, .slice Aa la ca, .slice Ar lr cr]) ⟨below_step HB0.out hb1, HK0.out.keep hb1⟩ ?_
  clear hb1 HB0 HK0 x0 x1 x2 HSM
  rintro V1 ⟨hb, hk⟩
  have HB1 := Lib.hid hb
  have HK1 := Lib.hid hk
  have x0 := hk.cell 0
  have x1 := hk.cell 1
  have x2 := hk.cell 2
  clear hb hk
  go_upto_region 4 with (go_at_call 22; refine (HPUT.out V1 HB1.out).mono ?_; rintro e w2 ⟨A1, c1, rfl, hr1, hc1, hb2⟩)
  refine wp_world (fun V => Below w.heap.size w V ∧ Blk V g 29 #[.slice Aw lw cw, .slice Aa la ca, .slice Ar lr cr] ∧ Rd V A1 P) ⟨below_step HB1.out hb2, HK1.out.keep hb2, hr1⟩ ?_
  clear hb2 HB1 HK1 x0 x1 x2 HPUT hr1
  rintro V2 ⟨hb, hk, hr⟩
  have HB2 := Lib.hid hb
  have HK2 := Lib.hid hk
  have HR2 := Lib.hid hr
  have HGET := Lib.hid (hget_v A1 P z c1 V2 HZ.out (by omega) hr)
  rw [HGP.out] at HGET
  clear hb hk hr HGP
  obtain ⟨m1, hm1⟩ : ∃ m, ws.length = m := ⟨_, rfl⟩
  obtain ⟨m2, hm2⟩ : ∃ m, nm.length = m := ⟨_, rfl⟩
  obtain ⟨m3, hm3⟩ : ∃ m, rs.length = m := ⟨_, rfl⟩
  obtain rfl : m1 = lw := hm1.symm.trans HLN.out.1
  obtain rfl : m2 = la := hm2.symm.trans HLN.out.2.1
  obtain rfl : m3 = lr := hm3.symm.trans HLN.out.2.2
  have HGET2 : Hid (Calls Try.prog 23 #[.slice A1 z c1] V2 fun e w' => Below V2.heap.size V2 w' ∧ ∃ Bw dw Ba da Br dr, e = .returned (.tuple #[.agg #[.slice Bw m1 dw, .slice Ba m2 da, .slice Br m3 dr], .int .i64 0]) ∧ HRd w' Bw m1 dw Ba m2 da Br m3 dr ws nm rs) := Lib.hid (HGET.out.mono fun e w' ⟨h1, _, h3⟩ => by
    obtain ⟨Bw, dw, Ba, da, Br, dr, e9, h9⟩ := h3 ws nm rs rfl
    rw [hm1, hm2, hm3] at e9 h9
    exact ⟨h1, Bw, dw, Ba, da, Br, dr, e9, h9⟩)
  clear HGET hm1 hm2 hm3
  go_upto_region 5 with (go_at_call 23; refine HGET2.out.mono ?_; rintro e w3 ⟨hb3, Bw, dw, Ba, da, Br, dr, rfl, hR3⟩)
  obtain ⟨gx, hgx⟩ : ∃ g, w3.heap.size = g := ⟨_, rfl⟩
  rw [hgx]
  have hbx := below_step hb3 (below_alloc w3 (.cells #[.slice Bw m1 dw, .slice Ba m2 da, .slice Br m3 dr] 29))
  refine wp_world (fun V => Below w.heap.size w V ∧ Blk V g 29 #[.slice Aw m1 cw, .slice Aa m2 ca, .slice Ar m3 cr] ∧ Rd V A1 P ∧ Blk V gx 29 #[.slice Bw m1 dw, .slice Ba m2 da, .slice Br m3 dr] ∧ HRd V Bw m1 dw Ba m2 da Br m3 dr ws nm rs) ⟨below_step HB2.out hbx, HK2.out.keep hbx, HR2.out.below hbx, by rw [← hgx]; exact Blk.new _ _ _, hR3.below (below_alloc _ _)⟩ ?_
  clear hb3 hbx hR3 hgx HB2 HK2 HR2 HGET2
  rintro V3 ⟨hb, hk, hr, hkx, hRx⟩
  have HB3 := Lib.hid hb
  have HK3 := Lib.hid hk
  have HR3 := Lib.hid hr
  have HKX3 := Lib.hid hkx
  have HRX3 := Lib.hid hRx
  have H0 : Hid ((V3.alloc (.cells #[] 5)).ownsRow V3.heap.size 5 1 (.slice (some ⟨V3.heap.size, 0, none⟩) 0 0) 0 [] ∧ Cs (V3.alloc (.cells #[] 5)) A1 (P.map bv)) :=
    ⟨own_made _ _ _ (Nat.le_refl _), (hr.below (below_alloc _ _)).cs⟩
  clear hb hk hr hkx hRx
  have hone := bvs_one P
  have hone2 := bvs_one [UInt8.ofNat x]
  have HLM := Lib.hid (show (P.map bv).length = z * 1 by rw [List.length_map, HZ.out]; omega)
  have hmx : 0 + z ≤ maxLen := by simp only [maxLen]; omega
  have hmx2 : z + 1 ≤ maxLen := by simp only [maxLen]; omega
  have hbx : (0 + z) * 1 ≤ 140737488355328 := by omega
  have hbx2 : (z + 1) * 1 ≤ 140737488355328 := by omega
  have hbs : V3.heap.size ≤ (V3.alloc (.cells #[] 5)).heap.size := by simp
  go_upto_region 6 with (first
    | (at_builtin; refine wpList_app bytesT rfl (.tmp 26) (.tmp 27) rfl V3.heap.size (.slice (some ⟨V3.heap.size, 0, none⟩) 0 0) 0 [] rfl H0.out.1 A1 z c1 (P.map bv) rfl HLM.out H0.out.2 hone hmx hbx hbs ?_; intro v4 w4 hown4 hgr4 _; simp only [Nat.zero_add, List.nil_append] at hown4; obtain ⟨A4, c4, rfl, _, _, _⟩ := own_rd hown4; have hb4 : Below V3.heap.size V3 w4 := (below_alloc V3 _).grown hgr4 (by simp) (fun k hk => (World.ownsRow.lt H0.out.1 k hk).1); clear hgr4)
    | (at_builtin; refine wpList_app bytesT rfl (.tmp 28) (.tmp 30) rfl V3.heap.size (.slice A4 z c4) z (P.map bv) rfl (own_far hown4 (below_alloc w4 _)) (some ⟨w4.heap.size, 0, none⟩) 1 1 [bv (UInt8.ofNat x)] rfl rfl (HONE.out w4) hone2 hmx2 hbx2 (hb4.alloc hb4.size _).size ?_; intro v5 w5 hown5 hgr5 _; rw [show P.map bv ++ [bv (UInt8.ofNat x)] = (P ++ [UInt8.ofNat x]).map bv by simp] at hown5; obtain ⟨A5, c5, rfl, hr5, hl5, _⟩ := own_rd hown5; have hb5 : Below V3.heap.size V3 w5 := (hb4.alloc hb4.size _).grown hgr5 (hb4.alloc hb4.size _).size (fun k hk => (World.ownsRow.lt hown4 k hk).1); clear hgr5)
    | (go_at_call 23; refine (hget_v _ _ _ _ _ hl5 (by omega) hr5).mono ?_; rw [HGM.out]; rintro r w6 ⟨hb6, hq, _⟩; obtain rfl := hq rfl))
  have hb6 := below_step hb5 hb6
  refine wp_world (fun V => Below w.heap.size w V ∧ Blk V g 29 #[.slice Aw m1 cw, .slice Aa m2 ca, .slice Ar m3 cr] ∧ Rd V A1 P ∧ Blk V gx 29 #[.slice Bw m1 dw, .slice Ba m2 da, .slice Br m3 dr] ∧ HRd V Bw m1 dw Ba m2 da Br m3 dr ws nm rs) (by have hb6 := below_step hb6 (below_alloc w6 (.cells #[.slice none 0 0, .slice none 0 0, .slice none 0 0] 29)); exact ⟨below_step HB3.out hb6, HK3.out.keep hb6, HR3.out.below hb6, HKX3.out.keep hb6, HRX3.out.below hb6⟩) ?_
  clear hb4 hb5 hb6 HB3 HK3 HR3 HKX3 HRX3 H0 hone hone2 HLM hown4 hown5 hr5 hl5 HGM HONE
  rintro V4 ⟨hb, hk, hr, hkx, hRx⟩
  have HB4 := Lib.hid hb
  have HK4 := Lib.hid hk
  have HR4 := Lib.hid hr
  have HS4 := Lib.hid (HSAME.out V4 hb Bw dw Ba da Br dr hRx)
  have x0 := hk.cell 0
  have x1 := hk.cell 1
  have x2 := hk.cell 2
  have y0 := hkx.cell 0
  have y1 := hkx.cell 1
  have y2 := hkx.cell 2
  clear hb hk hr hkx hRx HSAME
  go_upto_region 8 with (first
    | (go_at_call 12; refine (hnum_v _ _).mono ?_; rintro e w' ⟨rfl, rfl⟩)
    | (go_at_call 19; refine HS4.out.mono ?_; rintro e w7 ⟨rfl, hb7⟩))
  refine wp_world (fun V => Below w.heap.size w V ∧ Rd V A1 P) ⟨below_step HB4.out hb7, HR4.out.below hb7⟩ ?_
  clear hb7 HB4 HK4 HR4 HS4 x0 x1 x2 y0 y1 y2
  rintro V7 ⟨hb7, hr7⟩
  have hways : cut < 0 ∨ (¬ cut < 0 ∧ (z : Int) ≤ cut) ∨ ∃ k : Nat, cut = (k : Int) ∧ k < z := by
    by_cases g : cut < 0
    · exact .inl g
    · by_cases g2 : (z : Int) ≤ cut
      · exact .inr (.inl ⟨g, g2⟩)
      · obtain ⟨k, rfl⟩ := Int.eq_ofNat_of_zero_le (show (0 : Int) ≤ cut by omega)
        exact .inr (.inr ⟨k, rfl, by omega⟩)
  rcases hways with g | ⟨g, g2⟩ | ⟨k, rfl, hkz⟩
  · have hd7 : decide (cut < 0) = true := by simpa using g
    go_wp2_with (go_at_call 10; refine (live_from hb7).mono ?_; rintro e w8 ⟨rfl, hb8⟩)
    go_ret
    exact ⟨rfl, hb8⟩
  · have hd7 : decide (cut < 0) = false := by simpa using g
    have hd8 : decide ((z : Int) ≤ cut) = true := by simpa using g2
    go_wp2_with (go_at_call 10; refine (live_from hb7).mono ?_; rintro e w8 ⟨rfl, hb8⟩)
    go_ret
    exact ⟨rfl, hb8⟩
  · have hd7 : decide ((k : Int) < 0) = false := by rw [decide_eq_false_iff_not]; omega
    have hd8 : decide (z ≤ k) = false := by simp; omega
    have u2 : (k : Int) ≤ (c1 : Int) := by omega
    have HGET := Lib.hid (hget_v A1 (P.take k) k c1 V7 (by rw [List.length_take, HZ.out]; omega) (by omega) (rd_takeH hr7 k))
    rw [HGC.out k hkz] at HGET
    have HB7 := Lib.hid hb7
    clear hr7 hb7 HGC
    go_upto_region 11 with (go_at_call 23; refine HGET.out.mono ?_; rintro r w8 ⟨hb8, hq, _⟩; obtain rfl := hq rfl)
    obtain ⟨gy, hgy⟩ : ∃ g, w8.heap.size = g := ⟨_, rfl⟩
    rw [hgy]
    refine wp_world (fun V => Below w.heap.size w V ∧ Blk V gy 29 #[.slice none 0 0, .slice none 0 0, .slice none 0 0]) ⟨below_step (below_step HB7.out hb8) (below_alloc _ _), by rw [← hgy]; exact Blk.new _ _ _⟩ ?_
    clear hb8 HB7 HGET hgy
    rintro V8 ⟨hb8, hk8⟩
    have x0 := hk8.cell 0
    have x1 := hk8.cell 1
    have x2 := hk8.cell 2
    have HS8 := Lib.hid (rSame_v V8 (hrd_nil V8) (hrd_nil V8) ⟨by omega, by omega, by omega⟩ ⟨by omega, by omega, by omega⟩)
    rw [sameH_refl] at HS8
    have HB8 := Lib.hid hb8
    clear hb8 hk8
    go_wp2_with (first
      | (go_at_call 12; refine (hnum_v _ _).mono ?_; rintro e w' ⟨rfl, rfl⟩)
      | (go_at_call 19; refine HS8.out.mono ?_; rintro e w9 ⟨rfl, hb9⟩)
      | (go_at_call 10; refine (live_from (below_step HB8.out hb9)).mono ?_; rintro e w10 ⟨rfl, hb10⟩))
    go_ret
    exact ⟨rfl, hb10⟩
end
end Go.Proofs.Ytefnjplfemgibaa
