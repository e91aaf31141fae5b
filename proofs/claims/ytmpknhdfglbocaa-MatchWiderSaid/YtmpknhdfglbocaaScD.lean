/- Layer 10: the walks of digit, small, great, more, hex. Layer 10: the walks of number, Word, sign. Layer 10: the walk of sign. -/
import Derived.Test.YtmpknhdfglbocaaScA
import Derived.Test.YtmpknhdfglbocaaPaE
namespace Go.Proofs.Ytmpknhdfglbocaa
section
open Go.RowKit
set_option linter.unusedVariables false

theorem digit_any (W : World) {n : Nat} (hn : n < 256) : Calls Try.prog 48 #[.int .u8 (n : Int)] W fun e w' => e = .returned (.bool (digN n)) ∧ w' = W := by
  by_cases h1 : 48 ≤ n
  · have d1 : decide ((48 : Int) ≤ (n : Int)) = true := by simp; omega
    by_cases h2 : n ≤ 57
    · have d2 : decide ((n : Int) ≤ (57 : Int)) = true := by simp; omega
      have HF := Lib.hid (show digN n = true by unfold digN; simp; omega)
      clear h1 h2
      go_enter Try.func48, Try.ntmps48
      go_wp2
      go_ret
      rw [HF.out]
      exact ⟨rfl, rfl⟩
    · have d2 : decide ((n : Int) ≤ (57 : Int)) = false := by simp; omega
      have HF := Lib.hid (show digN n = false by unfold digN; simp; omega)
      clear h1 h2
      go_enter Try.func48, Try.ntmps48
      go_wp2
      go_ret
      rw [HF.out]
      exact ⟨rfl, rfl⟩
  · have d1 : decide ((48 : Int) ≤ (n : Int)) = false := by simp; omega
    have HF := Lib.hid (show digN n = false by unfold digN; simp; omega)
    clear h1
    go_enter Try.func48, Try.ntmps48
    go_wp2
    go_ret
    rw [HF.out]
    exact ⟨rfl, rfl⟩

theorem small_any (W : World) {n : Nat} (hn : n < 256) : Calls Try.prog 50 #[.int .u8 (n : Int)] W fun e w' => e = .returned (.bool (smaN n)) ∧ w' = W := by
  by_cases h1 : 97 ≤ n
  · have d1 : decide ((97 : Int) ≤ (n : Int)) = true := by simp; omega
    by_cases h2 : n ≤ 122
    · have d2 : decide ((n : Int) ≤ (122 : Int)) = true := by simp; omega
      have HF := Lib.hid (show smaN n = true by unfold smaN; simp; omega)
      clear h1 h2
      go_enter Try.func50, Try.ntmps50
      go_wp2
      go_ret
      rw [HF.out]
      exact ⟨rfl, rfl⟩
    · have d2 : decide ((n : Int) ≤ (122 : Int)) = false := by simp; omega
      have HF := Lib.hid (show smaN n = false by unfold smaN; simp; omega)
      clear h1 h2
      go_enter Try.func50, Try.ntmps50
      go_wp2
      go_ret
      rw [HF.out]
      exact ⟨rfl, rfl⟩
  · have d1 : decide ((97 : Int) ≤ (n : Int)) = false := by simp; omega
    have HF := Lib.hid (show smaN n = false by unfold smaN; simp; omega)
    clear h1
    go_enter Try.func50, Try.ntmps50
    go_wp2
    go_ret
    rw [HF.out]
    exact ⟨rfl, rfl⟩

theorem great_any (W : World) {n : Nat} (hn : n < 256) : Calls Try.prog 51 #[.int .u8 (n : Int)] W fun e w' => e = .returned (.bool (greN n)) ∧ w' = W := by
  by_cases h1 : 65 ≤ n
  · have d1 : decide ((65 : Int) ≤ (n : Int)) = true := by simp; omega
    by_cases h2 : n ≤ 90
    · have d2 : decide ((n : Int) ≤ (90 : Int)) = true := by simp; omega
      have HF := Lib.hid (show greN n = true by unfold greN; simp; omega)
      clear h1 h2
      go_enter Try.func51, Try.ntmps51
      go_wp2
      go_ret
      rw [HF.out]
      exact ⟨rfl, rfl⟩
    · have d2 : decide ((n : Int) ≤ (90 : Int)) = false := by simp; omega
      by_cases h3 : n = 95
      · have d3 : ((n : Int) == 95) = true := by simp; omega
        have HF := Lib.hid (show greN n = true by unfold greN; simp; omega)
        clear h1 h2 h3
        go_enter Try.func51, Try.ntmps51
        go_wp2
        go_ret
        rw [HF.out]
        exact ⟨rfl, rfl⟩
      · have d3 : ((n : Int) == 95) = false := by simp; omega
        have HF := Lib.hid (show greN n = false by unfold greN; simp; omega)
        clear h1 h2 h3
        go_enter Try.func51, Try.ntmps51
        go_wp2
        go_ret
        rw [HF.out]
        exact ⟨rfl, rfl⟩
  · have d1 : decide ((65 : Int) ≤ (n : Int)) = false := by simp; omega
    have d3 : ((n : Int) == 95) = false := by simp; omega
    have HF := Lib.hid (show greN n = false by unfold greN; simp; omega)
    clear h1
    go_enter Try.func51, Try.ntmps51
    go_wp2
    go_ret
    rw [HF.out]
    exact ⟨rfl, rfl⟩

theorem more_any (W : World) {n : Nat} (hn : n < 256) : Calls Try.prog 52 #[.int .u8 (n : Int)] W fun e w' => e = .returned (.bool (morN n)) ∧ w' = W := by
  have HCsmall := Lib.hid (small_any W hn)
  have HCdigit := Lib.hid (digit_any W hn)
  have HCgreat := Lib.hid (great_any W hn)
  cases hs : smaN n with
  | true =>
    rw [hs] at HCsmall
    have HF := Lib.hid (show morN n = true by unfold morN; rw [hs]; rfl)
    clear hs
    go_enter Try.func52, Try.ntmps52
    go_wp2_with (first
      | (go_at_call 50; refine (HCsmall.out).mono ?_; rintro e w9 ⟨rfl, rfl⟩))
    go_ret
    rw [HF.out]
    exact ⟨rfl, rfl⟩
  | false =>
    rw [hs] at HCsmall
    cases hd : digN n with
    | true =>
      rw [hd] at HCdigit
      have HF := Lib.hid (show morN n = true by unfold morN; rw [hs, hd]; rfl)
      clear hs hd
      go_enter Try.func52, Try.ntmps52
      go_wp2_with (first
        | (go_at_call 50; refine (HCsmall.out).mono ?_; rintro e w9 ⟨rfl, rfl⟩)
        | (go_at_call 48; refine (HCdigit.out).mono ?_; rintro e w9 ⟨rfl, rfl⟩))
      go_ret
      rw [HF.out]
      exact ⟨rfl, rfl⟩
    | false =>
      rw [hd] at HCdigit
      cases hg : greN n with
      | true =>
        rw [hg] at HCgreat
        have HF := Lib.hid (show morN n = true by unfold morN; rw [hs, hd, hg]; rfl)
        clear hs hd hg
        go_enter Try.func52, Try.ntmps52
        go_wp2_with (first
          | (go_at_call 50; refine (HCsmall.out).mono ?_; rintro e w9 ⟨rfl, rfl⟩)
          | (go_at_call 48; refine (HCdigit.out).mono ?_; rintro e w9 ⟨rfl, rfl⟩)
          | (go_at_call 51; refine (HCgreat.out).mono ?_; rintro e w9 ⟨rfl, rfl⟩))
        go_ret
        rw [HF.out]
        exact ⟨rfl, rfl⟩
      | false =>
        rw [hg] at HCgreat
        by_cases h6 : n = 64
        · have d6 : ((n : Int) == 64) = true := by simp; omega
          have HF := Lib.hid (show morN n = true by unfold morN; rw [hs, hd, hg]; simpa using h6)
          clear hs hd hg h6
          go_enter Try.func52, Try.ntmps52
          go_wp2_with (first
            | (go_at_call 50; refine (HCsmall.out).mono ?_; rintro e w9 ⟨rfl, rfl⟩)
            | (go_at_call 48; refine (HCdigit.out).mono ?_; rintro e w9 ⟨rfl, rfl⟩)
            | (go_at_call 51; refine (HCgreat.out).mono ?_; rintro e w9 ⟨rfl, rfl⟩))
          go_ret
          rw [HF.out]
          exact ⟨rfl, rfl⟩
        · have d6 : ((n : Int) == 64) = false := by simp; omega
          have HF := Lib.hid (show morN n = false by unfold morN; rw [hs, hd, hg]; simpa using h6)
          clear hs hd hg h6
          go_enter Try.func52, Try.ntmps52
          go_wp2_with (first
            | (go_at_call 50; refine (HCsmall.out).mono ?_; rintro e w9 ⟨rfl, rfl⟩)
            | (go_at_call 48; refine (HCdigit.out).mono ?_; rintro e w9 ⟨rfl, rfl⟩)
            | (go_at_call 51; refine (HCgreat.out).mono ?_; rintro e w9 ⟨rfl, rfl⟩))
          go_ret
          rw [HF.out]
          exact ⟨rfl, rfl⟩

theorem hex_any (W : World) {n : Nat} (hn : n < 256) : Calls Try.prog 62 #[.int .u8 (n : Int)] W fun e w' => e = .returned (.int .i64 (hexN n)) ∧ w' = W := by
  have HCdigit := Lib.hid (digit_any W hn)
  cases hd : digN n with
  | true =>
    rw [hd] at HCdigit
    have h48 : 48 ≤ n := by unfold digN at hd; simp at hd; omega
    have q1 : IntKind.u8.wrap ((n : Int) - 48) = (n : Int) - 48 := by unfold IntKind.wrap; simp [IntKind.bits, IntKind.signed]; omega
    have q2 : IntKind.i64.wrap ((n : Int) - 48) = (n : Int) - 48 := by rw [IntKind.wrap_i64]; omega
    have HF := Lib.hid (show hexN n = (n : Int) - 48 by unfold hexN; rw [hd]; rfl)
    clear hd h48
    go_enter Try.func62, Try.ntmps62
    go_wp2_with (go_at_call 48; refine HCdigit.out.mono ?_; rintro e w9 ⟨rfl, rfl⟩)
    go_ret
    rw [HF.out]
    exact ⟨rfl, rfl⟩
  | false =>
    rw [hd] at HCdigit
    by_cases h1 : 97 ≤ n
    · have d1 : decide ((97 : Int) ≤ (n : Int)) = true := by simp; omega
      by_cases h2 : n ≤ 102
      · have d2 : decide ((n : Int) ≤ (102 : Int)) = true := by simp; omega
        have q1 : IntKind.u8.wrap ((n : Int) - 97) = (n : Int) - 97 := by unfold IntKind.wrap; simp [IntKind.bits, IntKind.signed]; omega
        have q2 : IntKind.i64.wrap ((n : Int) - 97) = (n : Int) - 97 := by rw [IntKind.wrap_i64]; omega
        have q3 : IntKind.i64.wrap ((n : Int) - 97 + 10) = (n : Int) - 97 + 10 := by rw [IntKind.wrap_i64]; omega
        have HF := Lib.hid (show hexN n = (n : Int) - 97 + 10 by unfold hexN; rw [hd, if_neg (by simp), if_pos ⟨h1, h2⟩])
        clear hd h1 h2
        go_enter Try.func62, Try.ntmps62
        go_wp2_with (go_at_call 48; refine HCdigit.out.mono ?_; rintro e w9 ⟨rfl, rfl⟩)
        go_ret
        rw [HF.out]
        exact ⟨rfl, rfl⟩
      · have d2 : decide ((n : Int) ≤ (102 : Int)) = false := by simp; omega
        have HF := Lib.hid (show hexN n = -1 by unfold hexN; rw [hd, if_neg (by simp), if_neg (fun x => h2 x.2)])
        clear hd h1 h2
        go_enter Try.func62, Try.ntmps62
        go_wp2_with (go_at_call 48; refine HCdigit.out.mono ?_; rintro e w9 ⟨rfl, rfl⟩)
        go_ret
        rw [HF.out]
        exact ⟨rfl, rfl⟩
    · have d1 : decide ((97 : Int) ≤ (n : Int)) = false := by simp; omega
      have HF := Lib.hid (show hexN n = -1 by unfold hexN; rw [hd, if_neg (by simp), if_neg (fun x => h1 x.1)])
      clear hd h1
      go_enter Try.func62, Try.ntmps62
      go_wp2_with (go_at_call 48; refine HCdigit.out.mono ?_; rintro e w9 ⟨rfl, rfl⟩)
      go_ret
      rw [HF.out]
      exact ⟨rfl, rfl⟩
end
section
open Go.RowKit
set_option linter.unusedVariables false

theorem numP_step {l : List UInt8} {k n : Nat} (h : k < l.length) : numP n (l.drop k) = if (576460752303423487 - ((l[k]).toNat - 48)) / 10 < n then none else numP (10 * n + ((l[k]).toNat - 48)) (l.drop (k + 1)) := by
  rw [List.drop_eq_getElem_cons h]
  rfl
theorem str_at {l : List UInt8} {k : Nat} (h : k < l.length) (hq : k < (ByteArray.mk l.toArray).size) : (ByteArray.mk l.toArray)[k]'hq = l[k] := rfl
set_option maxHeartbeats 1000000 in
theorem number_any (W : World) (l : List UInt8) {len : Nat} (hlen : l.length = len) (h16 : len ≤ 16384) (hd : ∀ c ∈ l, digN c.toNat = true) :
    Calls Try.prog 49 #[.string ⟨l.toArray⟩] W fun e w' => e = .returned (.tuple #[.int .i64 (((numP 0 l).getD 0 : Nat) : Int), .bool (numP 0 l).isSome]) ∧ w' = W := by
  have HN := Lib.hid hlen
  have HD := Lib.hid hd
  clear hlen hd
  go_enter Try.func49, Try.ntmps49
  go_wp2
  go_loopw [4, 5, 6] (fun u v _ wx => ∃ (n k : Nat), u = .int .i64 (n : Int) ∧ v = .int .i64 (k : Int) ∧ k ≤ len ∧ n ≤ 576460752303423487 ∧ numP 0 l = numP n (l.drop k) ∧ wx = W) (fun _ v _ _ => len - (intOf v).toNat)
  case atStart => exact ⟨0, 0, rfl, rfl, Nat.zero_le _, by omega, rfl, rfl⟩
  case round =>
    obtain ⟨n, k, rfl, rfl, hk, hn, he, rfl⟩ := hrel
    by_cases hlt : k < len
    · have hd9 : decide (k < l.length) = true := by rw [HN.out]; simpa using hlt
      have hkl : k < l.length := by rw [HN.out]; exact hlt
      have hdg := HD.out _ (List.getElem_mem hkl)
      have hst := numP_step (n := n) hkl
      obtain ⟨c, hc⟩ : ∃ c, l[k] = c := ⟨_, rfl⟩
      rw [hc] at hdg hst
      have hx : (ByteArray.mk l.toArray)[k]'hkl = c := hc
      unfold digN at hdg
      simp only [Bool.and_eq_true, decide_eq_true_eq] at hdg
      obtain ⟨d, hd⟩ : ∃ d, c.toNat - 48 = d := ⟨_, rfl⟩
      rw [hd] at hst
      have q0 : ((c.toNat : Int) - 48) % 256 = (d : Int) := by omega
      have hd10 : d ≤ 9 := by omega
      have HST := Lib.hid (he.trans hst)
      clear hst he hd hdg hc
      by_cases hb : (576460752303423487 - d) / 10 < n
      · have d1 : decide ((576460752303423487 - (d : Int)) / 10 < (n : Int)) = true := by simp; omega
        have HE := Lib.hid (show numP 0 l = none by rw [HST.out, if_pos hb])
        clear hb HST
        go_wp2
        go_ret2
        rw [HE.out]
        exact ⟨rfl, rfl⟩
      · have d1 : decide ((576460752303423487 - (d : Int)) / 10 < (n : Int)) = false := by simp; omega
        have HE := Lib.hid (show numP 0 l = numP (10 * n + d) (l.drop (k + 1)) by rw [HST.out, if_neg hb])
        have hbn : 10 * n + d ≤ 576460752303423487 := by omega
        clear hb HST
        go_wp2
        go_roundw
        case rel => exact ⟨10 * n + d, k + 1, by go_num, by go_num, hlt, hbn, HE.out, trivial⟩
        case measure => simp [intOf]; omega
    · obtain rfl : k = len := by omega
      have hd9 : decide (k < l.length) = false := by rw [HN.out]; simp
      have HE := Lib.hid (show numP 0 l = some n by rw [he, ← HN.out, List.drop_length]; rfl)
      clear he
      go_wp2
      go_ret2
      rw [HE.out]
      exact ⟨rfl, rfl⟩

theorem any_step {f : List UInt8 → Bool} {l : List (List UInt8)} {i : Nat} (h : i < l.length) : (l.drop i).any f = (f l[i] || (l.drop (i + 1)).any f) := by
  rw [List.drop_eq_getElem_cons h, List.any_cons]
def wordsC : Array Value := (wordsW.map (fun w => Value.string ⟨w.toArray⟩)).toArray
set_option maxHeartbeats 1000000 in
theorem word_any (W : World) (s : List UInt8) : Calls Try.prog 53 #[.string ⟨s.toArray⟩] W fun e w' => e = .returned (.bool (wordP s)) ∧ Below W.heap.size W w' := by
  have HB : Hid (Blk (W.alloc (.cells wordsC 9)) W.heap.size 9 wordsC ∧ Below W.heap.size W (W.alloc (.cells wordsC 9))) := ⟨Blk.new _ _ _, below_alloc _ _⟩
  have hl14 : wordsW.length = 14 := rfl
  have HWC : Hid (∀ k (h : k < wordsW.length), wordsC[k]? = some (.string ⟨(wordsW[k]).toArray⟩)) := fun k h => by simp [wordsC, h]
  have HWP : Hid (wordP s = (wordsW.drop 0).any (fun w => w == s)) := rfl
  obtain ⟨ws, hws⟩ : ∃ ws, wordsW = ws := ⟨_, rfl⟩
  obtain ⟨wb, hwb⟩ : ∃ wb, wordP s = wb := ⟨_, rfl⟩
  rw [hws] at hl14 HWC HWP
  rw [hwb] at HWP ⊢
  have HN := Lib.hid hl14
  clear hws hl14 hwb
  go_enter Try.func53, Try.ntmps53
  go_upto_region 2 with (fail)
  refine wp_world (fun V => Blk V W.heap.size 9 wordsC ∧ Below W.heap.size W V) HB.out ?_
  rintro V ⟨hB, hb⟩
  have HBV := Lib.hid hB
  have HBB := Lib.hid hb
  clear hB hb HB
  go_wp2
  go_loopw [4] (fun v wx => ∃ (k : Nat), v = .int .i64 (k : Int) ∧ k ≤ 14 ∧ wb = (ws.drop k).any (fun w => w == s) ∧ wx = V) (fun v _ => 14 - (intOf v).toNat)
  case atStart => exact ⟨0, rfl, Nat.zero_le _, HWP.out, rfl⟩
  case round =>
    obtain ⟨k, rfl, hk, he, rfl⟩ := hrel
    by_cases hlt : k < 14
    · have hd9 : decide ((k : Int) < 14) = true := by simp; omega
      have hkl : k < ws.length := by rw [HN.out]; exact hlt
      have c0 : wr.cell? ⟨W.heap.size, k, none⟩ = some (.string ⟨(ws[k]).toArray⟩) := by rw [HBV.out.cell k]; exact HWC.out k hkl
      have hst := he.trans (any_step (f := fun w => w == s) hkl)
      obtain ⟨w, hw⟩ : ∃ w, ws[k] = w := ⟨_, rfl⟩
      rw [hw] at c0 hst
      have q1 : (0 : Int) ≤ (k : Int) := by omega
      have q2 : (k : Int) < 14 := by omega
      clear hw he
      cases hb : (w == s) with
      | true =>
        have HE := Lib.hid (show wb = true by rw [hst]; simp [hb])
        clear hst
        go_wp2
        go_ret
        rw [HE.out]
        exact ⟨rfl, HBB.out⟩
      | false =>
        have HE := Lib.hid (show wb = (ws.drop (k + 1)).any (fun w => w == s) by rw [hst]; simp [hb])
        clear hst
        go_wp2
        go_roundw
        case rel => exact ⟨k + 1, by go_num, by omega, HE.out, trivial⟩
        case measure => simp [intOf]; omega
    · obtain rfl : k = 14 := by omega
      have HE := Lib.hid (show wb = false by rw [he, ← HN.out, List.drop_length]; rfl)
      clear he
      go_wp2
      go_ret
      rw [HE.out]
      exact ⟨rfl, HBB.out⟩
end
section
open Go.RowKit
set_option linter.unusedVariables false

theorem str_cut (l : List UInt8) (i j : Nat) : (ByteArray.mk l.toArray).extract i j = ⟨(cutB l i j).toArray⟩ := by
  have h : ((ByteArray.mk l.toArray).extract i j).data = (cutB l i j).toArray := by
    rw [ByteArray.data_extract]
    unfold cutB
    simp [List.extract_toArray]
  exact congrArg ByteArray.mk h
/-- The loop over the signs of one byte. -/
def signB : Array UInt8 := #[40, 41, 91, 93, 123, 125, 44, 59, 46, 124, 33, 43, 45, 42, 60, 62, 61]

theorem any_step8 {f : UInt8 → Bool} {l : List UInt8} {i : Nat} (h : i < l.length) : (l.drop i).any f = (f l[i] || (l.drop (i + 1)).any f) := by
  rw [List.drop_eq_getElem_cons h, List.any_cons]

set_option maxHeartbeats 4000000 in
theorem sign_one (W : World) (l : List UInt8) (hpos : 0 < l.length) (h2 : ¬ 2 ≤ l.length) : Calls Try.prog 55 #[.string ⟨l.toArray⟩] W fun e w' => e = .returned (.int .i64 (signP l : Nat)) ∧ Below W.heap.size W w' := by
  have d1 : decide ((2 : Int) ≤ (l.length : Int)) = false := by simp; omega
  obtain ⟨c, hc⟩ : ∃ c, l[0]'(by omega) = c := ⟨_, rfl⟩
  have hx : (ByteArray.mk l.toArray)[0]'(by show 0 < l.length; omega) = c := hc
  obtain ⟨ob, hob⟩ : ∃ ob, oneP l = ob := ⟨_, rfl⟩
  have HO := Lib.hid (show ob = (signW.drop 0).any (fun w => w == c) by
    rw [← hob, ← hc]
    cases l with
    | nil => simp at hpos
    | cons a r => rfl)
  have HT : Hid (ob = true → signP l = 1) := fun h => by unfold signP; rw [show (decide (2 ≤ l.length) && twoW.any (fun w => w == l.take 2)) = false by simp [h2]]; rw [← hob] at h; simp [h]
  have HFF : Hid (ob = false → signP l = 0) := fun h => by unfold signP; rw [show (decide (2 ≤ l.length) && twoW.any (fun w => w == l.take 2)) = false by simp [h2]]; rw [← hob] at h; simp [h]
  clear hob hc
  have h0l := hpos
  clear h2
  go_enter Try.func55, Try.ntmps55
  go_wp2
  go_loopw [5] (fun v wx => ∃ (k : Nat), v = .int .i64 (k : Int) ∧ k ≤ 17 ∧ ob = (signW.drop k).any (fun w => w == c) ∧ Below W.heap.size W wx) (fun v _ => 17 - (intOf v).toNat)
  case atStart => exact ⟨0, rfl, Nat.zero_le _, HO.out, Below.refl _ _⟩
  case round =>
    obtain ⟨k, rfl, hk, he, hbw⟩ := hrel
    have HBW := Lib.hid hbw
    clear hbw
    by_cases hlt : k < 17
    · have hd9 : decide ((k : Int) < 17) = true := by simp; omega
      have hkl : k < signW.length := hlt
      have hst := he.trans (any_step8 (f := fun w => w == c) hkl)
      obtain ⟨w, hw⟩ : ∃ w, signW[k] = w := ⟨_, rfl⟩
      rw [hw] at hst
      have hx2 : (ByteArray.mk #[40, 41, 91, 93, 123, 125, 44, 59, 46, 124, 33, 43, 45, 42, 60, 62, 61])[k]'hlt = w := hw
      have q1 : (0 : Int) ≤ (k : Int) := by omega
      have q2 : (k : Int) < 17 := by omega
      clear hw he
      cases hb : (w == c) with
      | true =>
        have e1 : (c.toNat == w.toNat) = true := by have := (beq_iff_eq (a := w) (b := c)).1 hb; subst this; simp
        have HE := Lib.hid (show ob = true by rw [hst]; simp [hb])
        clear hst hb
        go_wp2
        go_quiet (fail)
        go_wp2
        go_ret
        rw [HT.out HE.out]
        exact ⟨rfl, below_drewN HBW.out _⟩
      | false =>
        have e1 : (c.toNat == w.toNat) = false := by
          have h9 : w ≠ c := by intro h9; subst h9; simp at hb
          have h8 : c.toNat ≠ w.toNat := fun h8 => h9 (UInt8.toNat_inj.1 h8).symm
          simpa using h8
        have HE := Lib.hid (show ob = (signW.drop (k + 1)).any (fun w => w == c) by rw [hst]; simp [hb])
        clear hst hb
        go_wp2
        go_quiet (fail)
        go_wp2
        go_roundw
        case rel => exact ⟨k + 1, by go_num, by omega, HE.out, below_drewN HBW.out _⟩
        case measure => simp [intOf]; omega
    · obtain rfl : k = 17 := by omega
      have HE := Lib.hid (show ob = false by rw [he]; rfl)
      clear he
      go_wp2
      go_ret
      rw [HFF.out HE.out]
      exact ⟨rfl, HBW.out⟩

set_option maxHeartbeats 4000000 in
theorem sign_more (W : World) (l : List UInt8) (h2 : 2 ≤ l.length) : Calls Try.prog 55 #[.string ⟨l.toArray⟩] W fun e w' => e = .returned (.int .i64 (signP l : Nat)) ∧ Below W.heap.size W w' := by
  have d1 : decide ((2 : Int) ≤ (l.length : Int)) = true := by simp; omega
  have q2 : (2 : Int) ≤ (l.length : Int) := by omega
  obtain ⟨x, hx0⟩ : ∃ x, l.take 2 = x := ⟨_, rfl⟩
  have hcut : (ByteArray.mk l.toArray).extract 0 2 = ⟨x.toArray⟩ := by rw [str_cut]; unfold cutB; rw [List.drop_zero, ← hx0]
  by_cases b0 : (x == [45, 62]) = true
  · have HE := Lib.hid (show signP l = 2 by unfold signP; rw [show (decide (2 ≤ l.length) && twoW.any (fun w => w == l.take 2)) = true by rw [hx0, (beq_iff_eq.1 b0)]; simp [h2, twoW]]; rfl)
    clear hx0 h2
    go_enter Try.func55, Try.ntmps55
    go_wp2
    go_ret
    rw [HE.out]
    exact ⟨rfl, Below.refl _ _⟩
  replace b0 : (x == [45, 62]) = false := by simpa using b0
  by_cases b1 : (x == [61, 61]) = true
  · have HE := Lib.hid (show signP l = 2 by unfold signP; rw [show (decide (2 ≤ l.length) && twoW.any (fun w => w == l.take 2)) = true by rw [hx0, (beq_iff_eq.1 b1)]; simp [h2, twoW]]; rfl)
    clear hx0 h2
    go_enter Try.func55, Try.ntmps55
    go_wp2
    go_ret
    rw [HE.out]
    exact ⟨rfl, Below.refl _ _⟩
  replace b1 : (x == [61, 61]) = false := by simpa using b1
  by_cases b2 : (x == [47, 61]) = true
  · have HE := Lib.hid (show signP l = 2 by unfold signP; rw [show (decide (2 ≤ l.length) && twoW.any (fun w => w == l.take 2)) = true by rw [hx0, (beq_iff_eq.1 b2)]; simp [h2, twoW]]; rfl)
    clear hx0 h2
    go_enter Try.func55, Try.ntmps55
    go_wp2
    go_ret
    rw [HE.out]
    exact ⟨rfl, Below.refl _ _⟩
  replace b2 : (x == [47, 61]) = false := by simpa using b2
  by_cases b3 : (x == [61, 60]) = true
  · have HE := Lib.hid (show signP l = 2 by unfold signP; rw [show (decide (2 ≤ l.length) && twoW.any (fun w => w == l.take 2)) = true by rw [hx0, (beq_iff_eq.1 b3)]; simp [h2, twoW]]; rfl)
    clear hx0 h2
    go_enter Try.func55, Try.ntmps55
    go_wp2
    go_ret
    rw [HE.out]
    exact ⟨rfl, Below.refl _ _⟩
  replace b3 : (x == [61, 60]) = false := by simpa using b3
  by_cases b4 : (x == [62, 61]) = true
  · have HE := Lib.hid (show signP l = 2 by unfold signP; rw [show (decide (2 ≤ l.length) && twoW.any (fun w => w == l.take 2)) = true by rw [hx0, (beq_iff_eq.1 b4)]; simp [h2, twoW]]; rfl)
    clear hx0 h2
    go_enter Try.func55, Try.ntmps55
    go_wp2
    go_ret
    rw [HE.out]
    exact ⟨rfl, Below.refl _ _⟩
  replace b4 : (x == [62, 61]) = false := by simpa using b4
  have hno : (decide (2 ≤ l.length) && twoW.any (fun w => w == l.take 2)) = false := by
    rw [hx0]
    have h9 : twoW.any (fun w => w == x) = false := by
      have hsym : ∀ w : List UInt8, (x == w) = false → (w == x) = false := fun w h => by
        have h1 : x ≠ w := by intro e; subst e; simp at h
        have h2 : w ≠ x := fun e => h1 e.symm
        simpa using h2
      unfold twoW
      simp only [List.any_cons, List.any_nil, Bool.or_false, Bool.or_eq_false_iff]
      exact ⟨hsym _ b0, hsym _ b1, hsym _ b2, hsym _ b3, hsym _ b4⟩
    rw [h9, Bool.and_false]
  have hpos : 0 < l.length := by omega
  obtain ⟨c, hc⟩ : ∃ c, l[0]'(by omega) = c := ⟨_, rfl⟩
  have hx : (ByteArray.mk l.toArray)[0]'(by show 0 < l.length; omega) = c := hc
  obtain ⟨ob, hob⟩ : ∃ ob, oneP l = ob := ⟨_, rfl⟩
  have HO := Lib.hid (show ob = (signW.drop 0).any (fun w => w == c) by
    rw [← hob, ← hc]
    cases l with
    | nil => simp at hpos
    | cons a r => rfl)
  have HT : Hid (ob = true → signP l = 1) := fun h => by unfold signP; rw [hno]; rw [← hob] at h; simp [h]
  have HFF : Hid (ob = false → signP l = 0) := fun h => by unfold signP; rw [hno]; rw [← hob] at h; simp [h]
  clear hob hc
  clear hno hx0 h2
  go_enter Try.func55, Try.ntmps55
  go_wp2
  go_loopw [5] (fun v wx => ∃ (k : Nat), v = .int .i64 (k : Int) ∧ k ≤ 17 ∧ ob = (signW.drop k).any (fun w => w == c) ∧ Below W.heap.size W wx) (fun v _ => 17 - (intOf v).toNat)
  case atStart => exact ⟨0, rfl, Nat.zero_le _, HO.out, Below.refl _ _⟩
  case round =>
    obtain ⟨k, rfl, hk, he, hbw⟩ := hrel
    have HBW := Lib.hid hbw
    clear hbw
    by_cases hlt : k < 17
    · have hd9 : decide ((k : Int) < 17) = true := by simp; omega
      have hkl : k < signW.length := hlt
      have hst := he.trans (any_step8 (f := fun w => w == c) hkl)
      obtain ⟨w, hw⟩ : ∃ w, signW[k] = w := ⟨_, rfl⟩
      rw [hw] at hst
      have hx2 : (ByteArray.mk #[40, 41, 91, 93, 123, 125, 44, 59, 46, 124, 33, 43, 45, 42, 60, 62, 61])[k]'hlt = w := hw
      have q1 : (0 : Int) ≤ (k : Int) := by omega
      have q2 : (k : Int) < 17 := by omega
      clear hw he
      cases hb : (w == c) with
      | true =>
        have e1 : (c.toNat == w.toNat) = true := by have := (beq_iff_eq (a := w) (b := c)).1 hb; subst this; simp
        have HE := Lib.hid (show ob = true by rw [hst]; simp [hb])
        clear hst hb
        go_wp2
        go_quiet (fail)
        go_wp2
        go_ret
        rw [HT.out HE.out]
        exact ⟨rfl, below_drewN HBW.out _⟩
      | false =>
        have e1 : (c.toNat == w.toNat) = false := by
          have h9 : w ≠ c := by intro h9; subst h9; simp at hb
          have h8 : c.toNat ≠ w.toNat := fun h8 => h9 (UInt8.toNat_inj.1 h8).symm
          simpa using h8
        have HE := Lib.hid (show ob = (signW.drop (k + 1)).any (fun w => w == c) by rw [hst]; simp [hb])
        clear hst hb
        go_wp2
        go_quiet (fail)
        go_wp2
        go_roundw
        case rel => exact ⟨k + 1, by go_num, by omega, HE.out, below_drewN HBW.out _⟩
        case measure => simp [intOf]; omega
    · obtain rfl : k = 17 := by omega
      have HE := Lib.hid (show ob = false by rw [he]; rfl)
      clear he
      go_wp2
      go_ret
      rw [HFF.out HE.out]
      exact ⟨rfl, HBW.out⟩

theorem sign_any (W : World) (l : List UInt8) (hpos : 0 < l.length) : Calls Try.prog 55 #[.string ⟨l.toArray⟩] W fun e w' => e = .returned (.int .i64 (signP l : Nat)) ∧ Below W.heap.size W w' := by
  by_cases h2 : 2 ≤ l.length
  · exact sign_more W l h2
  · exact sign_one W l hpos h2
end
end Go.Proofs.Ytmpknhdfglbocaa
