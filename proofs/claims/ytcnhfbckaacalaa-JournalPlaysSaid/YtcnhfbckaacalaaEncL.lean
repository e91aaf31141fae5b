/- The walks of spool's Num, Int, Str once more: at least one thing is laid, so what is handed back is a row of the call's own. -/
import Derived.Test.YtcnhfbckaacalaaLays
namespace Go.Proofs.Ytcnhfbckaacalaa
open Go.RowKit
set_option linter.unusedVariables false

def GaK (w : World) (base : Nat) (v : Value) (l : List UInt8) (k : Nat) : Prop := Ga w base v l ∧ (0 < k → w.ownsRow base 5 1 v l.length (l.map bv))
theorem GaK.mk {w : World} {base : Nat} {v : Value} {l : List UInt8} (k : Nat) (h : w.ownsRow base 5 1 v l.length (l.map bv)) : GaK w base v l (k + 1) := ⟨.inl h, fun _ => h⟩

set_option maxHeartbeats 1000000 in
/-- Str. -/
theorem str_own (A B : Option Addr) (l0 : List UInt8) (ss : List (List UInt8)) (n c m c' : Nat) (w : World) (hl : l0.length = n) (hm : ss.length = m) (hnc : n ≤ c) (hc : c ≤ 9223372036854775807) (hr : Rd w A l0) (hk : RdT w B ss) (hm0 : 0 < m) (hsz : n + 9 * m + textSum ss ≤ 140737488355328) :
    Calls Try.prog 49 #[.slice A n c, .slice B m c'] w fun e w' => ∃ v, e = .returned v ∧ w'.ownsRow w.heap.size 5 1 v (l0 ++ laidSs ss).length ((l0 ++ laidSs ss).map bv) ∧ Below w.heap.size w w' := by
  subst hl
  have HM := Lib.hid hm
  have HCl := Lib.hid (clip_any A l0.length c w hnc hc)
  clear hm
  obtain ⟨i0, hi, hz0, hz1, hz2⟩ := info_parts bytesT.info
  have HI := Lib.hid (And.intro hi (And.intro hz0 (And.intro hz1 hz2)))
  clear hi hz0 hz1 hz2
  go_enter Try.func49, Try.ntmps49
  go_wp2_with (go_at_call 72; refine HCl.out.mono ?_; rintro e w' ⟨rfl, rfl⟩)
  go_loopw [0, 11] (fun v i wr => ∃ k : Nat, k ≤ m ∧ i = .int .i64 k ∧ GaK wr w.heap.size v (l0 ++ laidSs (ss.take k)) k ∧ Below w.heap.size w wr) (fun _ i _ => m - (intOf i).toNat)
  case atStart => exact ⟨0, Nat.zero_le _, rfl, ⟨by simpa [laidSs] using Ga.of_rd hr w.heap.size, fun h => absurd h (Nat.lt_irrefl _)⟩, Below.refl _ _⟩
  case round =>
    obtain ⟨k, hkm, rfl, ⟨hga, hgo⟩, hbw⟩ := hrel
    have HGO := Lib.hid hgo
    clear hgo
    by_cases hlt : k < m
    · have hkl : k < ss.length := by rw [HM.out]; exact hlt
      obtain ⟨b, off, rfl, hcell⟩ := (hk.below hbw).at_ (k := k) hkl
      have HT := Lib.hid (show laidSs (ss.take (k + 1)) = laidSs (ss.take k) ++ laidS ss[k] by rw [List.take_succ_eq_append_getElem hkl, laidSs_snoc])
      have hts := textSum_take ss k hkl
      generalize ss[k] = x at *
      have hln := laidSs_len (ss.take k)
      rw [List.length_take] at hln
      have hll : (l0 ++ laidSs (ss.take k)).length + 9 + x.length ≤ 140737488355328 := by rw [List.length_append]; omega
      obtain ⟨L, hL⟩ : ∃ L, L = l0 ++ laidSs (ss.take k) := ⟨_, rfl⟩
      rw [← hL] at hga hll
      have HT2 := Lib.hid (show l0 ++ laidSs (ss.take (k + 1)) = L ++ laidB x.length 0 ++ x by rw [HT.out, hL, laidS, List.append_assoc, List.append_assoc])
      clear hL HT hln
      obtain ⟨A2, cA2, hv, _, _⟩ := hga.rd
      subst hv
      have hd1 : decide (k < m) = true := by simp; omega
      have hxs : (⟨x.toArray⟩ : ByteArray).size = x.length := by simp [ByteArray.size]
      have hx64 : x.length < 18446744073709551616 := by omega
      have HC := Lib.hid (counted_0 _ _ x.length wr w.heap.size hga hbw.size hx64 (by omega))
      have hlb := laidB_len x.length 0
      have hwl := wid_le x.length
      obtain ⟨L2, hL2⟩ : ∃ L2, L2 = L ++ laidB x.length 0 := ⟨_, rfl⟩
      rw [← hL2] at HC HT2
      have hL2l : L2.length + x.length ≤ 140737488355328 := by rw [hL2, List.length_append]; omega
      have hmx : L2.length + (⟨x.toArray⟩ : ByteArray).size ≤ maxLen := by rw [hxs]; unfold maxLen; omega
      have hbx : L2.length + (⟨x.toArray⟩ : ByteArray).size ≤ 140737488355328 := by rw [hxs]; exact hL2l
      have HXS := Lib.hid hxs
      have HMX := Lib.hid (And.intro hmx hbx)
      clear hL2 hlb hwl hxs hmx hbx
      go_wp2_with (first
        | (go_at_call 73; refine HC.out.mono ?_; rintro e w2 ⟨v2, rfl, hown2, hb2⟩; have hbz := Nat.le_trans hbw.size hb2.size)
        | (at_builtin; refine Lib.wpList_append_own_string _ rfl (.tmp 19) (.tmp 20) 23 9 rfl w.heap.size 5 i0 bytesT.ht Try.underlying9 HI.out.1 HI.out.2.1 HI.out.2.2.1 HI.out.2.2.2 _ _ _ rfl hown2 ⟨x.toArray⟩ rfl HMX.out.1 HMX.out.2 hbz ?_; intro v3 w3 hown3 hgr3 _))
      have hb3 : Below w.heap.size w w3 := (hbw.trans hb2).grown hgr3 hbz (fun k hk => (hown2.lt k hk).1)
      rw [strCells_bv, ← List.map_append, HXS.out] at hown3
      go_roundw
      case rel => exact ⟨k + 1, by omega, by go_num, GaK.mk k (by rw [HT2.out, List.length_append]; exact hown3), hb3⟩
      case measure => simp [intOf]; omega
    · have hd1 : decide (k < m) = false := by simp; omega
      obtain rfl : k = m := by omega
      go_wp2
      go_ret
      refine ⟨_, rfl, ?_, hbw⟩
      have hgo := HGO.out hm0
      rw [List.take_of_length_le (by rw [HM.out]; exact Nat.le_refl _)] at hgo
      exact hgo

end Go.Proofs.Ytcnhfbckaacalaa
