/- Links (layer 18): the walk of Of. -/
import Derived.Test.YtpfikhamokjdjaaLkO
namespace Go.Proofs.Ytpfikhamokjdjaa
open Go.RowKit Go.Maps Go.WideMaps
set_option linter.unusedVariables false

section
variable {w0 W V : World} {pm b1 b2 n : Nat} {L : PL} {K : WL}
def OfEnds (W : World) (l : List Int) (e : Ending) (w' : World) : Prop := ∃ v, e = .returned v ∧ w'.ownsRow W.heap.size 2 1 v l.length (l.map (Value.int .i64)) ∧ Below W.heap.size W w'
set_option maxRecDepth 100000 in
set_option maxHeartbeats 2000000 in
theorem of_v (h : LK w0 W pm b1 b2 n L K) (a : Int) (hn : L.length ≤ 1000000) :
    Calls Try.prog 13 #[.pointer (some ⟨pm, 0, none⟩), .int .i64 a] W (OfEnds W (ofP L a)) := by
  have HH := Lib.hid h
  have m0 := h.obj.cell 0
  have hp := h.p
  have hOK : Hid (∀ p ∈ L, i64ok p.1 ∧ i64ok p.2) := fun p hp => (HH.out.lk.ok p hp).2
  have hND := Lib.hid h.lk.nd
  have hB1 := Lib.hid h.hi.2.1
  have HN := Lib.hid hn
  clear h hn
  go_enter Try.func13, Try.ntmps13
  go_wp2_with (first
    | (at_range; refine wpList_range_own _ rfl _ 53 rfl 45 4 kp Try.underlying53 _ b1 n _ rfl hp ?_; intro x0 hrg0 hg0 hs0)
    | go_in)
  go_frame
  have HR0 := Lib.hid (PR.start hrg0)
  clear hp
  go_loopw [4] (fun u wr => ∃ (rem done : PL) (cnt : Nat), OfR W b1 n L a u wr rem done cnt) (fun _ wr => wr.rangeLeft b1 W.heap.size)
  case atStart => exact ⟨L, [], _, HR0.out, by simp, World.ownsRow_nil _ _ _ _, below_of_grown hg0 (by simp), by omega⟩
  case round =>
    obtain ⟨rem, done, cnt, hrel⟩ := hrel
    have HREL := Lib.hid hrel
    have hrg := hrel.rg
    have HSUB : Hid (∀ p ∈ rem, p ∈ L) := fun p hp => hrel.pm.mem_iff.1 (List.mem_append_left _ hp)
    clear hrel hrg0 hg0 HR0
    go_wp2_with (first
      | (at_next; refine wpList_nextP rfl _ rfl rfl hrg hOK.out HSUB.out ?_ ?_)
      | go_in)
    · intro hrem
      subst hrem
      obtain ⟨zs, hzs⟩ : ∃ zs, done.filterMap (othP a) = zs := ⟨_, rfl⟩
      have hRO := HREL.out.row
      rw [hzs] at hRO
      have hlz : zs.length ≤ 1000000 := by
        have h1 := List.length_filterMap_le (othP a) done
        have h2 := HREL.out.pm.length_eq
        rw [List.length_append, hzs] at *
        have := HN.out
        simp at h2
        omega
      have HSO := Lib.hid (sortI_v zs hlz HREL.out.lt hRO)
      have HOF := Lib.hid (show ofP L a = zs.mergeSort (fun x y => decide (x ≤ y)) by rw [← hzs]; exact (ofP_perm (by simpa using HREL.out.pm)).symm)
      clear hzs hRO hlz hrg
      go_wp2_with (go_at_call 29; refine HSO.out.mono ?_; rintro e w9 ⟨rfl, ho9, hb9⟩; have HO9 := Lib.hid ho9; have HB9 := Lib.hid hb9; clear ho9 hb9)
      go_ret
      rw [HOF.out]
      refine ⟨_, rfl, ?_, HREL.out.bel.trans (HB9.out.mono (by omega))⟩
      rw [List.length_mergeSort]
      exact own_low9 HO9.out (by omega)
    · intro x y w1 cnt1 hpr hrg1 hlt hg1 hs1 hen
      have HPR := Lib.hid hpr
      have HRG1 := Lib.hid hrg1
      have HG1 := Lib.hid hg1
      have HLT := Lib.hid hlt
      have HRG := Lib.hid hrg
      clear hpr hrg1 hg1 hrg hs1 hlt
      obtain ⟨gx, hgx⟩ : ∃ gx, w1.heap.size = gx := ⟨_, rfl⟩
      go_upto_region 6 with (fail)
      refine wp_world (fun V => Below w1.heap.size w1 V ∧ Blk V gx 45 #[.int .i64 x, .int .i64 y]) ⟨below_alloc _ _, Blk.newAt9 hgx⟩ ?_
      clear hen hgx
      rintro V ⟨hbV, hbk⟩
      have HBV := Lib.hid hbV
      have HBK := Lib.hid hbk
      have g0 := hbk.cell 0
      have g1 := hbk.cell 1
      clear hbV hbk
      by_cases c1 : a = x
      · have d1 : (a == x) = true := by simpa using c1
        have HO := Lib.hid (show othP a (x, y) = some y by unfold othP; rw [if_pos c1])
        have HROW := Lib.hid (own_bel (HREL.out.one hB1.out hND.out hOK.out HPR.out HRG1.out HG1.out).1 HBV.out)
        have HSZ := Lib.hid (show W.heap.size + 1 ≤ V.heap.size by have := HREL.out.one hB1.out hND.out hOK.out HPR.out HRG1.out HG1.out; have := HBV.out.size; omega)
        have HDL := Lib.hid (show (done.filterMap (othP a)).length + 1 ≤ 1000001 by have h1 := List.length_filterMap_le (othP a) done; have h2 := HREL.out.pm.length_eq; rw [List.length_append] at h2; have := HN.out; omega)
        clear c1
        go_upto_region 8 with (fail)
        go_wp2_with (at_builtin; (refine wpList_app i64T rfl (.tmp 22) (.tmp 25) rfl (W.heap.size + 1) u4 _ _ rfl (own_bel HROW.out (below_alloc V _)) (some ⟨V.heap.size, 0, none⟩) 1 1 [.int .i64 y] rfl rfl (cs_one_val _ _ _) (by simp [Value.oneCell']) (by unfold maxLen; have := HDL.out; omega) (by have := HDL.out; omega) (by have := HSZ.out; simp; omega) ?_); intro v3 w3 ho3 hg3 hat3)
        have HNX := Lib.hid (HREL.out.some_ hB1.out hND.out hOK.out HPR.out HRG1.out HG1.out HO.out (below_step HBV.out (below_alloc V _)) ho3 hg3)
        clear ho3 hg3 hat3
        go_roundw
        case rel => exact ⟨_, _, _, HNX.out⟩
        case measure => rw [HNX.out.rg.left_eq, HRG.out.left_eq]; exact HLT.out
      · by_cases c2 : a = y
        · have d1 : (a == x) = false := by simpa using c1
          have d2 : (a == y) = true := by simpa using c2
          have HO := Lib.hid (show othP a (x, y) = some x by unfold othP; rw [if_neg c1, if_pos c2])
          have HROW := Lib.hid (own_bel (HREL.out.one hB1.out hND.out hOK.out HPR.out HRG1.out HG1.out).1 HBV.out)
          have HSZ := Lib.hid (show W.heap.size + 1 ≤ V.heap.size by have := HREL.out.one hB1.out hND.out hOK.out HPR.out HRG1.out HG1.out; have := HBV.out.size; omega)
          have HDL := Lib.hid (show (done.filterMap (othP a)).length + 1 ≤ 1000001 by have h1 := List.length_filterMap_le (othP a) done; have h2 := HREL.out.pm.length_eq; rw [List.length_append] at h2; have := HN.out; omega)
          clear c1 c2
          go_upto_region 10 with (fail)
          go_wp2_with (at_builtin; (refine wpList_app i64T rfl (.tmp 31) (.tmp 34) rfl (W.heap.size + 1) u4 _ _ rfl (own_bel HROW.out (below_alloc V _)) (some ⟨V.heap.size, 0, none⟩) 1 1 [.int .i64 x] rfl rfl (cs_one_val _ _ _) (by simp [Value.oneCell']) (by unfold maxLen; have := HDL.out; omega) (by have := HDL.out; omega) (by have := HSZ.out; simp; omega) ?_); intro v3 w3 ho3 hg3 hat3)
          have HNX := Lib.hid (HREL.out.some_ hB1.out hND.out hOK.out HPR.out HRG1.out HG1.out HO.out (below_step HBV.out (below_alloc V _)) ho3 hg3)
          clear ho3 hg3 hat3
          go_roundw
          case rel => exact ⟨_, _, _, HNX.out⟩
          case measure => rw [HNX.out.rg.left_eq, HRG.out.left_eq]; exact HLT.out
        · have d1 : (a == x) = false := by simpa using c1
          have d2 : (a == y) = false := by simpa using c2
          have HO := Lib.hid (show othP a (x, y) = none by unfold othP; rw [if_neg c1, if_neg c2])
          clear c1 c2
          go_wp2
          have HNX := Lib.hid (HREL.out.none_ hB1.out hND.out hOK.out HPR.out HRG1.out HG1.out HO.out HBV.out)
          go_roundw
          case rel => exact ⟨_, _, _, HNX.out⟩
          case measure => rw [HNX.out.rg.left_eq, HRG.out.left_eq]; exact HLT.out
end
end Go.Proofs.Ytpfikhamokjdjaa
