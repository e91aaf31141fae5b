/- The walk of the reference's Get of layer 3. -/
import Derived.Test.YthdhinhedgcbcaaSRefB
import Derived.RegionTactic
import Derived.IntWalk
namespace Go.Proofs.Ythdhinhedgcbcaa
open Go.RowKit
set_option linter.unusedVariables false

/-- A struct of the call's own: what is read. -/
structure GS (w : World) (x : Array Value) (W : World) : Prop where
  res : Blk W w.heap.size 25 #[.int .u8 0, .int .u64 0, .slice none 0 0]
  x : Blk W (w.heap.size + 1) 25 x
  bel : Below w.heap.size w W
section
variable {w W W' : World} {x : Array Value}
theorem GS.keep (h : GS w x W) (hb : Below W.heap.size W W') : GS w x W' := ⟨h.res.keep hb, h.x.keep hb, below_step h.bel hb⟩
theorem GS.set (h : GS w x W) (i : Nat) (v : Value) : GS w (x.setIfInBounds i v) (W.setCell ⟨w.heap.size + 1, i, none⟩ v) :=
  ⟨h.res.far (p := ⟨w.heap.size + 1, i, none⟩) (by show w.heap.size ≠ w.heap.size + 1; omega) v, h.x.set_ i v, h.bel.setCell (p := ⟨w.heap.size + 1, i, none⟩) (by show w.heap.size ≤ w.heap.size + 1; omega) v⟩
theorem GS.drew (h : GS w x W) : GS w x W.drew := h.keep (Below.refl _ _).drew
end

theorem conv_any (W : World) (s : ByteArray) (x : List UInt8) (h : s.data.toList = x) :
    ∃ c W', (convert 9 23 (.string s)).run Try.prog W = .ok (.slice (some ⟨W.heap.size, 0, none⟩) x.length c) W' ∧ Rd W' (some ⟨W.heap.size, 0, none⟩) x ∧ x.length ≤ c ∧ Below W.heap.size W W' := by
  have hsz : s.size = x.length := by rw [← h, Array.length_toList]; rfl
  have hcv := run_bytes_of_string (P := Try.prog) W 9 23 5 s Try.underlying9 Try.underlying23 Try.underlying5
  have hG := grownCap_ge W s.size 0 5
  rw [hsz] at hcv hG
  generalize grownCap W x.length 0 5 = G at *
  refine ⟨G, _, hcv, ?_, hG, below_step (b := W.drew) (Below.refl _ _).drew (below_alloc W.drew _)⟩
  refine .inr ⟨W.heap.size, 0, rfl, fun j hj => ?_⟩
  have hc2 := cell_of_row (W.drew.alloc (.cells (bytesRow s G) 5 ((bytesRow s G).size, (bytesRow s G).size + 1))) W.heap.size (0 + j) (bytesRow s G) 5 ((bytesRow s G).size, (bytesRow s G).size + 1) (heap_alloc_new W.drew _)
  rw [hc2, Nat.zero_add]
  have hj2 : j < s.data.size := by have : s.data.size = s.size := rfl; omega
  unfold bytesRow
  rw [Array.getElem?_append_left (by simpa using hj2)]
  subst h
  rw [Array.getElem?_map, Array.getElem?_eq_getElem hj2]
  simp [bv]
theorem told_pair (l : List UInt8) (h : 10 < l.length) : toldN ((l.drop 9).take 2) = 256 * l[9].toNat + l[10].toNat := by
  have e : (l.drop 9).take 2 = [l[9], l[10]] := by
    rw [List.take_succ_eq_append_getElem (by simp; omega), List.take_succ_eq_append_getElem (by simp; omega)]
    simp
  rw [e]
  have := u8_lt l[9]
  simp [toldN]
  omega

set_option maxRecDepth 100000 in
set_option maxHeartbeats 2000000 in
theorem rget_rest (s : ByteArray) (l : List UInt8) (w : World) (hs : s.data.toList = l) (h64 : 64 ≤ s.size) (h4096 : s.size ≤ 4096) :
    Calls Try.prog 14 #[.string s] w (GetEnds w l) := by
  have HS := Lib.hid hs
  have hln : l.length = s.size := by rw [← hs, Array.length_toList]; rfl
  have HLN := Lib.hid hln
  have hat : ∀ k (h : k < s.size) (h' : k < l.length), s[k].toNat = l[k].toNat := by
    intro k h h'
    subst hs
    rfl
  have HAT := Lib.hid hat
  obtain ⟨n, hn⟩ : ∃ n, n = s.size := ⟨_, rfl⟩
  have d1 : decide ((s.size : Int) < 64) = false := by simp; omega
  have d2 : decide (4096 < (s.size : Int)) = false := by simp; omega
  have HRM := Lib.hid (fun W => rroom_any (s.size : Int) W)
  have hrm : room (s.size : Int) = (s.size : Int) - 15 := by unfold room; rw [if_neg (by omega), if_neg (by omega)]
  rw [hrm] at HRM
  clear hs hln hat hn hrm
  go_enter Try.func14, Try.ntmps14
  go_upto_region 4 with (fail)
  have HG0 : Hid (GS w #[.int .u8 ((s[0]'(by omega)).toNat : Int), .int .u64 0, .slice none 0 0] ((w.alloc (.cells #[.int .u8 0, .int .u64 0, .slice none 0 0] 25)).alloc (.cells #[.int .u8 ((s[0]'(by omega)).toNat : Int), .int .u64 0, .slice none 0 0] 25))) := by
    refine ⟨(Blk.new w _ _).alloc _, ?_, below_step (below_alloc _ _) (below_alloc _ _)⟩
    have := Blk.new (w.alloc (.cells #[.int .u8 0, .int .u64 0, .slice none 0 0] 25)) 25 #[.int .u8 ((s[0]'(by omega)).toNat : Int), .int .u64 0, .slice none 0 0]
    simpa using this
  generalize hk0 : (s[0]'(by omega)).toNat = hd at *
  refine wp_world (fun W => GS w #[.int .u8 (hd : Int), .int .u64 0, .slice none 0 0] W) HG0.out ?_
  intro w1 hG1
  go_wp2
  go_loopw [5] (fun i wr => ∃ k : Nat, k ≤ 8 ∧ i = .int .i64 ((k : Int) + 1) ∧ GS w #[.int .u8 (hd : Int), .int .u64 ((toldN ((l.drop 1).take k) : Nat) : Int), .slice none 0 0] wr) (fun i _ => 9 - (intOf i).toNat)
  case atStart => exact ⟨0, Nat.zero_le _, rfl, by simpa [toldN] using hG1⟩
  case round =>
    obtain ⟨k, hk, rfl, hG⟩ := hrel
    clear hG1 HG0
    have htk := toldN_lt ((l.drop 1).take k)
    by_cases hlt : k < 8
    · have hkl : k + 1 < l.length := by rw [HLN.out]; omega
      have q4 : k + 1 < s.size := by omega
      have hcb := HAT.out (k + 1) q4 hkl
      have hsn : (l.drop 1).take (k + 1) = (l.drop 1).take k ++ [l[k + 1]] := by
        rw [List.take_succ_eq_append_getElem (by simp; omega)]
        simp
      have h8 := u8_lt l[k + 1]
      have hor := or_byte (toldN ((l.drop 1).take k)) l[k + 1].toNat htk h8
      rw [← toldN_snoc, ← hsn] at hor
      have HG2 := Lib.hid ((hG.set 1 (.int .u64 ((toldN ((l.drop 1).take (k + 1)) : Nat) : Int))).drew)
      rw [← hcb] at hor h8
      have c1 := hG.x.cell 1
      have f1 := hG.x.frozen 1
      have HV := Lib.hid hor
      clear hcb hsn hG hkl hor
      obtain ⟨tk, hk1⟩ : ∃ tk, toldN ((l.drop 1).take k) = tk := ⟨_, rfl⟩
      rw [hk1] at HV c1 htk
      clear hk1
      have hd1 : decide ((k : Int) + 1 < 9) = true := by simp; omega
      have q1 : (0 : Int) ≤ (k : Int) + 1 := by omega
      have q2 : ((k : Int) + 1).toNat = k + 1 := by omega
      have q3 : (k : Int) + 1 < (s.size : Int) := by omega
      go_upto_region 7 with (fail)
      go_region
      go_wp2
      rw [HV.out]
      exact ⟨⟨k + 1, by omega, by go_num, HG2.out⟩, by simp [intOf]; omega⟩
    · obtain rfl : k = 8 := by omega
      clear htk hlt hk
      obtain ⟨num, hnum⟩ : ∃ num, toldN ((l.drop 1).take 8) = num := ⟨_, rfl⟩
      rw [hnum] at hG
      have HNUM := Lib.hid hnum
      have hd1 : decide (((8 : Nat) : Int) + 1 < 9) = false := by simp
      clear hnum
      have c0 := hG.x.cell 0
      have q9 : (9 : Int) < (s.size : Int) := by omega
      have q10 : (10 : Int) < (s.size : Int) := by omega
      have q9' : 9 < s.size := by omega
      have q10' : 10 < s.size := by omega
      have b9 := u8_lt s[9]
      have b10 := u8_lt s[10]
      have hT := told_pair l (by rw [HLN.out]; omega)
      rw [← HAT.out 9 q9' (by rw [HLN.out]; omega), ← HAT.out 10 q10' (by rw [HLN.out]; omega)] at hT
      obtain ⟨t, ht⟩ : ∃ t, toldN ((l.drop 9).take 2) = t := ⟨_, rfl⟩
      rw [ht] at hT
      have HTT := Lib.hid ht
      have hTI : (256 : Int) * ((s[9].toNat : Nat) : Int) + ((s[10].toNat : Nat) : Int) = (t : Int) := by omega
      have t65 : t ≤ 65535 := by omega
      clear hT ht
      go_upto_region 8 with (fail)
      go_quiet (fail)
      go_upto_region 9 with (fail)
      (try rw [hTI])
      refine wp_world (fun W => GS w #[.int .u8 (hd : Int), .int .u64 (num : Int), .slice none 0 0] W) (hG.keep (below_drewN (Below.refl _ _) _)) ?_
      clear hG c0 hTI b9 b10
      intro w2 hG2
      have r0 := hG2.res.cell 0
      have r1 := hG2.res.cell 1
      have r2 := hG2.res.cell 2
      have g0 := hG2.res.frozen 0
      have g1 := hG2.res.frozen 1
      have g2 := hG2.res.frozen 2
      have hwl := hG2.res.lt
      by_cases hbig : s.size < t + 15
      · have HG := Lib.hid (show getP l = none by unfold getP; rw [HLN.out, HTT.out, if_neg (by unfold room; rw [if_neg (by omega), if_neg (by omega)]; omega), if_pos (by unfold room; rw [if_neg (by omega), if_neg (by omega)]; omega)])
        have hd9 : decide ((s.size : Int) - 15 < (t : Int)) = true := by simp; omega
        go_wp2_with (go_at_call 18; refine (HRM.out _).mono ?_; rintro e w' ⟨rfl, rfl⟩)
        refine bp_world (fun W => Below w.heap.size w W ∧ Blk W w.heap.size 25 #[.int .u8 0, .int .u64 0, .slice none 0 0]) ⟨?_, ?_⟩ ?_
        · exact ((hG2.bel.setCell (Nat.le_refl _) _).setCell (Nat.le_refl _) _).setCell (Nat.le_refl _) _
        · exact ((hG2.res.set_ 0 _).set_ 1 _).set_ 2 _
        rintro W ⟨hbW, hBW⟩
        have y0 := hBW.cell 0
        have y1 := hBW.cell 1
        have y2 := hBW.cell 2
        exact bodyPost_ret (v := .tuple #[.agg #[.int .u8 0, .int .u64 0, .slice none 0 0], .int .i64 30]) (by simp [results, Try.results14, go_sem, y0, y1, y2]) rfl ⟨hbW, .inl ⟨HG.out, rfl⟩⟩
      · have hd9 : decide ((s.size : Int) - 15 < (t : Int)) = false := by simp; omega
        obtain ⟨x, hx⟩ : ∃ x, x = (l.drop 11).take t := ⟨_, rfl⟩
        have hxl : x.length = t := by rw [hx, List.length_take, List.length_drop, HLN.out]; omega
        obtain ⟨xs, hxs⟩ : ∃ xs : ByteArray, xs = s.extract 11 (11 + t) := ⟨_, rfl⟩
        have hxd : xs.data.toList = x := by rw [hxs, Lib.extract_data, HS.out, hx]; congr 1; omega
        obtain ⟨c2, w3, hcv, hr3, hc3, hb3⟩ := conv_any w2 xs x hxd
        rw [hxl] at hcv hc3
        rw [hxs] at hcv
        have HXL := Lib.hid hxl
        have hG3 := hG2.keep hb3
        have e2 := hG3.x.cell 2
        have m2 := hG3.x.frozen 2
        have HG3 := Lib.hid (hG3.set 2 (.slice (some ⟨w2.heap.size, 0, none⟩) t c2))
        have p1 : (0 : Int) ≤ 11 + (t : Int) := by omega
        have p2 : 11 + (t : Int) ≤ (s.size : Int) := by omega
        have p3 : (11 + (t : Int)).toNat = 11 + t := by omega
        have HR3 : Hid (Rd (w3.setCell ⟨w.heap.size + 1, 2, none⟩ (.slice (some ⟨w2.heap.size, 0, none⟩) t c2)) (some ⟨w2.heap.size, 0, none⟩) x) := by
          have hl2 := hG2.x.lt
          have hfr := Fr.setCell (fun k => k = w.heap.size + 1) w3 (p := ⟨w.heap.size + 1, 2, none⟩) (fun _ => rfl) (.slice (some ⟨w2.heap.size, 0, none⟩) t c2)
          exact hfr.rd hr3 (fun b off e _ => by injection e with e; injection e with e; omega)
        have HX := Lib.hid hx
        clear hxs hxd hx hxl r0 r1 r2 g0 g1 g2 hG3
        go_upto_region 12 with (go_at_call 18; refine (HRM.out _).mono ?_; rintro e w' ⟨rfl, rfl⟩)
        refine wp_world (fun W => GS w #[.int .u8 (hd : Int), .int .u64 (num : Int), .slice (some ⟨w2.heap.size, 0, none⟩) t c2] W ∧ Rd W (some ⟨w2.heap.size, 0, none⟩) x) ⟨HG3.out, HR3.out⟩ ?_
        rintro w4 ⟨hG4, hr4⟩
        have hhd : hd < 256 := by rw [← hk0]; exact u8_lt _
        have hnm : num < 18446744073709551616 := by rw [← HNUM.out]; exact toldN_lt _
        have HPU := Lib.hid (rput_any (s.size : Int) hd num (some ⟨w2.heap.size, 0, none⟩) t c2 x w4 hhd hnm HXL.out hr4)
        have hHd : (l.headD 0).toNat = hd := by
          rw [← hk0, HAT.out 0 (by omega) (by rw [HLN.out]; omega), List.headD_eq_head?_getD, List.head?_eq_getElem?, List.getElem?_eq_getElem (by rw [HLN.out]; omega)]
          rfl
        have HG := Lib.hid (show getP l = if putP (s.size : Int) hd num x = (0, l) then some (hd, num, x) else none by
          unfold getP
          rw [HLN.out, HTT.out, hHd, HNUM.out, ← HX.out, if_neg (by unfold room; rw [if_neg (by omega), if_neg (by omega)]; omega), if_neg (by unfold room; rw [if_neg (by omega), if_neg (by omega)]; omega)])
        rcases hpp : putP (s.size : Int) hd num x with ⟨pe, pl⟩
        rw [hpp] at HG HPU
        have x0 := hG4.x.cell 0
        have x1 := hG4.x.cell 1
        have x2 := hG4.x.cell 2
        have HX4 := Lib.hid hr4
        clear hpp HG3 HR3 e2 m2 hcv hr3 hc3 hb3 hG2 hHd hk0 HX hr4
        by_cases hpe : pe = 0
        · subst hpe
          by_cases hpl : pl = l
          · have HGS := Lib.hid (show getP l = some (hd, num, x) by rw [HG.out, hpl]; simp)
            have hse : (⟨pl.toArray⟩ : ByteArray) = s := by
              rw [hpl, ← HS.out]
            simp only [hse] at HPU
            clear hse hpl HG
            go_upto_region 13 with (go_at_call 13; refine HPU.out.mono ?_; rintro e w5 ⟨rfl, hb5⟩)
            have hG5 := hG4.keep hb5
            have hr5 := HX4.out.below hb5
            have r0 := hG5.res.cell 0
            have r1 := hG5.res.cell 1
            have r2 := hG5.res.cell 2
            have g0 := hG5.res.frozen 0
            have g1 := hG5.res.frozen 1
            have g2 := hG5.res.frozen 2
            have y0 := hG5.x.cell 0
            have y1 := hG5.x.cell 1
            have y2 := hG5.x.cell 2
            clear x0 x1 x2 HX4
            go_wp2
            refine bp_world (fun W => Below w.heap.size w W ∧ Blk W w.heap.size 25 #[.int .u8 (hd : Int), .int .u64 (num : Int), .slice (some ⟨w2.heap.size, 0, none⟩) t c2] ∧ Rd W (some ⟨w2.heap.size, 0, none⟩) x) ⟨?_, ?_, ?_⟩ ?_
            · exact ((hG5.bel.setCell (Nat.le_refl _) _).setCell (Nat.le_refl _) _).setCell (Nat.le_refl _) _
            · exact ((hG5.res.set_ 0 _).set_ 1 _).set_ 2 _
            · have hfr := ((Fr.setCell (fun k => k = w.heap.size) w5 (p := ⟨w.heap.size, 0, none⟩) (fun _ => rfl) (.int .u8 (hd : Int))).same (Fr.setCell (fun k => k = w.heap.size) _ (p := ⟨w.heap.size, 1, none⟩) (fun _ => rfl) (.int .u64 (num : Int)))).same (Fr.setCell (fun k => k = w.heap.size) _ (p := ⟨w.heap.size, 2, none⟩) (fun _ => rfl) (.slice (some ⟨w2.heap.size, 0, none⟩) t c2))
              exact hfr.rd hr5 (fun b off e _ => by injection e with e; injection e with e; omega)
            rintro W ⟨hbW, hBW, hrW⟩
            have z0 := hBW.cell 0
            have z1 := hBW.cell 1
            have z2 := hBW.cell 2
            exact bodyPost_ret (v := .tuple #[.agg #[.int .u8 (hd : Int), .int .u64 (num : Int), .slice (some ⟨w2.heap.size, 0, none⟩) t c2], .int .i64 0]) (by simp [results, Try.results14, go_sem, z0, z1, z2]) rfl ⟨hbW, .inr ⟨hd, num, x, some ⟨w2.heap.size, 0, none⟩, c2, HGS.out, by rw [HXL.out], hrW⟩⟩
          · have HGN := Lib.hid (show getP l = none by rw [HG.out, if_neg (by simpa using hpl)])
            have hsl : s.toList = l := by
              have e : s = ⟨l.toArray⟩ := by rw [← HS.out]
              rw [e]
              simp
            have hne2 : (pl == s.toList) = false := by rw [hsl, beq_eq_false_iff_ne]; exact hpl
            clear hsl hpl HG
            go_upto_region 13 with (go_at_call 13; refine HPU.out.mono ?_; rintro e w5 ⟨rfl, hb5⟩)
            have hG5 := hG4.keep hb5
            have r0 := hG5.res.cell 0
            have r1 := hG5.res.cell 1
            have r2 := hG5.res.cell 2
            have g0 := hG5.res.frozen 0
            have g1 := hG5.res.frozen 1
            have g2 := hG5.res.frozen 2
            clear x0 x1 x2 HX4
            go_wp2
            refine bp_world (fun W => Below w.heap.size w W ∧ Blk W w.heap.size 25 #[.int .u8 0, .int .u64 0, .slice none 0 0]) ⟨?_, ?_⟩ ?_
            · exact ((hG5.bel.setCell (Nat.le_refl _) _).setCell (Nat.le_refl _) _).setCell (Nat.le_refl _) _
            · exact ((hG5.res.set_ 0 _).set_ 1 _).set_ 2 _
            rintro W ⟨hbW, hBW⟩
            have y0 := hBW.cell 0
            have y1 := hBW.cell 1
            have y2 := hBW.cell 2
            exact bodyPost_ret (v := .tuple #[.agg #[.int .u8 0, .int .u64 0, .slice none 0 0], .int .i64 30]) (by simp [results, Try.results14, go_sem, y0, y1, y2]) rfl ⟨hbW, .inl ⟨HGN.out, rfl⟩⟩
        · have HGN := Lib.hid (show getP l = none by rw [HG.out, if_neg (by simp [hpe])])
          have hbe : ((pe : Int) != 0) = true := by rw [bne_iff_ne]; omega
          clear HG hpe
          go_upto_region 13 with (go_at_call 13; refine HPU.out.mono ?_; rintro e w5 ⟨rfl, hb5⟩)
          have hG5 := hG4.keep hb5
          have r0 := hG5.res.cell 0
          have r1 := hG5.res.cell 1
          have r2 := hG5.res.cell 2
          have g0 := hG5.res.frozen 0
          have g1 := hG5.res.frozen 1
          have g2 := hG5.res.frozen 2
          clear x0 x1 x2 HX4
          go_wp2
          refine bp_world (fun W => Below w.heap.size w W ∧ Blk W w.heap.size 25 #[.int .u8 0, .int .u64 0, .slice none 0 0]) ⟨?_, ?_⟩ ?_
          · exact ((hG5.bel.setCell (Nat.le_refl _) _).setCell (Nat.le_refl _) _).setCell (Nat.le_refl _) _
          · exact ((hG5.res.set_ 0 _).set_ 1 _).set_ 2 _
          rintro W ⟨hbW, hBW⟩
          have y0 := hBW.cell 0
          have y1 := hBW.cell 1
          have y2 := hBW.cell 2
          exact bodyPost_ret (v := .tuple #[.agg #[.int .u8 0, .int .u64 0, .slice none 0 0], .int .i64 30]) (by simp [results, Try.results14, go_sem, y0, y1, y2]) rfl ⟨hbW, .inl ⟨HGN.out, rfl⟩⟩

set_option maxHeartbeats 1000000 in
/-- The reference's Get at every text. -/
theorem rget_any (l : List UInt8) (w : World) (hl : l.length ≤ 1000000) : Calls Try.prog 14 #[.string ⟨l.toArray⟩] w (GetEnds w l) := by
  by_cases h : l.length < 64 ∨ 4096 < l.length
  · have HG := Lib.hid (show getP l = none by
      unfold getP room
      rw [if_pos]
      rcases h with h | h
      · rw [if_pos (by omega)]
      · rw [if_neg (by omega), if_pos (by omega)])
    obtain ⟨n, hn⟩ : ∃ n, l.length = n := ⟨_, rfl⟩
    rw [hn] at h
    have HN := Lib.hid hn
    have hway : decide ((n : Int) < 64) = true ∨ (decide ((n : Int) < 64) = false ∧ decide (4096 < (n : Int)) = true) := by
      simp only [decide_eq_true_eq, decide_eq_false_iff_not]; omega
    obtain ⟨s, hs⟩ : ∃ s : ByteArray, s = ⟨l.toArray⟩ := ⟨_, rfl⟩
    have hsz : s.size = n := by rw [hs, ← hn]; rfl
    rw [← hs]
    clear hn h hs
    rcases hway with h1 | ⟨h1, h2⟩
    all_goals
      go_enter Try.func14, Try.ntmps14
      go_wp2
      exact bodyPost_ret (v := .tuple #[.agg #[.int .u8 0, .int .u64 0, .slice none 0 0], .int .i64 30]) (by simp [results, Try.results14, go_sem]) rfl ⟨below_alloc _ _, .inl ⟨HG.out, rfl⟩⟩
  · have hsz : (⟨l.toArray⟩ : ByteArray).size = l.length := by simp [ByteArray.size]
    exact rget_rest ⟨l.toArray⟩ l w rfl (by omega) (by omega)
end Go.Proofs.Ythdhinhedgcbcaa
