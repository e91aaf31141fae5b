/- The walks of slices.Grow at a nil slice of bytes and of slices.Concat at bytes. -/
import Derived.Test.YtcnhfbckaacalaaProg
import Derived.Test.YtcnhfbckaacalaaBase
import Derived.Test.YtcnhfbckaacalaaLibA
import Derived.Lib.AppendZerosOnto
namespace Go.Proofs.Ytcnhfbckaacalaa
open Go.RowKit
set_option linter.unusedVariables false

set_option maxHeartbeats 400000 in
theorem grow_zero (w : World) :
    Calls Try.prog 79 #[.slice none 0 0, .int .i64 0] w fun e w' => e = .returned (.slice none 0 0) ∧ w = w' := by
  go_enter Try.func79, Try.ntmps79
  go_wp2
  go_ret
  exact ⟨rfl, rfl⟩

set_option maxHeartbeats 400000 in
theorem grow_some (n : Nat) (w : World) (hn : n ≤ 140737488355328) (h0 : 0 < n) :
    Calls Try.prog 79 #[.slice none 0 0, .int .i64 n] w fun e w' => ∃ v, e = .returned v ∧ w'.ownsRow w.heap.size 5 1 v 0 [] ∧ Below w.heap.size w w' := by
  obtain ⟨i, hi, hz, hsz, hby⟩ := info_parts (bytesT).info
  have hrz : ∀ ty, (Builtin.append_ #[23, 3] ty #[.slice none 0 0, .int .i64 (n : Int)]).run Try.prog w = .ok (.slice (some ⟨w.heap.size, 0, none⟩) n (grownCap w n 0 5)) (w.drew.alloc (.cells ((#[] : Array Value) ++ Builtin.zeroCells (Value.int .u8 0).cells n ++ Builtin.zeroCells (Value.int .u8 0).cells (grownCap w n 0 5 - n)) 5)) := fun ty => by
    have h := Lib.run_append_grow_zeros (P := Try.prog) w 23 3 ty 5 i (.int .u8 0) .i64 .i64 Try.underlying23 Try.underlying3 hi hz none 0 0 [] (run_firstCells_none w.drew i.size 0 0 0) n (by omega) (by omega) (by omega) (by omega) (by rw [hby]; omega) (by rw [hby, Nat.zero_add]; exact growslice_fits (by omega) (by omega))
    simpa only [Nat.zero_add] using h
  have hG := grownCap_ge w n 0 5
  have hG2 := grownCap_le_maxLen w n 0 5 (by unfold maxLen; omega)
  generalize grownCap w n 0 5 = G at *
  unfold maxLen at hG2
  have Hown := Lib.hid (show (w.drew.alloc (.cells ((#[] : Array Value) ++ Builtin.zeroCells (Value.int .u8 0).cells n ++ Builtin.zeroCells (Value.int .u8 0).cells (G - n)) 5)).ownsRow w.heap.size 5 1 (.slice (some ⟨w.heap.size, 0, none⟩) 0 G) 0 [] from
    World.ownsRow_made w.drew _ G (Nat.le_refl _) (by unfold maxLen; omega) (by simp [size_zeroCells, Value.cells]; omega))
  generalize ((#[] : Array Value) ++ Builtin.zeroCells (Value.int .u8 0).cells n ++ Builtin.zeroCells (Value.int .u8 0).cells (G - n)) = cs at *
  clear hi hz hsz hby
  have HR := Lib.hid hrz
  clear hrz
  go_enter Try.func79, Try.ntmps79
  go_wp2_with (at_builtin; refine Lib.wpList_append_run _ rfl _ _ _ _ rfl _ _ rfl rfl _ _ (HR.out _) ?_)
  go_ret
  exact ⟨_, rfl, Hown.out, (Below.refl _ _).drew.alloc (Nat.le_refl _) _⟩

/-- slices.Grow of no slice. -/
theorem grow_any (n : Nat) (w : World) (hn : n ≤ 140737488355328) :
    Calls Try.prog 79 #[.slice none 0 0, .int .i64 n] w fun e w' => ∃ v, e = .returned v ∧ w'.ownsRow w.heap.size 5 1 v 0 [] ∧ Below w.heap.size w w' := by
  rcases Nat.eq_zero_or_pos n with rfl | h0
  · exact (grow_zero w).mono fun e w' ⟨he, hw⟩ => ⟨_, he, by subst hw; exact World.ownsRow_nil w _ _ _, by subst hw; exact Below.refl _ _⟩
  · exact grow_some n w hn h0

/-- A slice of slices of bytes reads as lists of bytes. -/
def RdL (w : World) (A : Option Addr) (ls : List (List UInt8)) : Prop :=
  ls = [] ∨ ∃ b off, A = some ⟨b, off, none⟩ ∧ ∀ j, (h : j < ls.length) → ∃ B c, w.cell? ⟨b, off + j, none⟩ = some (.slice B ls[j].length c) ∧ Rd w B ls[j]

theorem RdL.at_ {w : World} {A : Option Addr} {ls : List (List UInt8)} (h : RdL w A ls) {k : Nat} (hk : k < ls.length) :
    ∃ b off B c, A = some ⟨b, off, none⟩ ∧ w.cell? ⟨b, off + k, none⟩ = some (.slice B (ls[k]'hk).length c) ∧ Rd w B (ls[k]'hk) := by
  rcases h with rfl | ⟨b, off, h1, h2⟩
  · simp at hk
  · obtain ⟨B, c, h3, h4⟩ := h2 k hk
    exact ⟨b, off, B, c, h1, h3, h4⟩
theorem RdL.keep {w w' : World} {A : Option Addr} {ls : List (List UInt8)} (h : RdL w A ls) (hk : ∀ p : Addr, p.block < w.heap.size → w'.cell? p = w.cell? p) : RdL w' A ls := by
  rcases h with rfl | ⟨b, off, h1, h2⟩
  · exact .inl rfl
  · refine .inr ⟨b, off, h1, fun j hj => ?_⟩
    obtain ⟨B, c, h3, h4⟩ := h2 j hj
    exact ⟨B, c, (hk _ (World.block_lt_of_cell? w ⟨b, off + j, none⟩ h3)).trans h3, h4.keep hk⟩
theorem RdL.below {w w' : World} {A : Option Addr} {ls : List (List UInt8)} (h : RdL w A ls) (hb : Below w.heap.size w w') : RdL w' A ls := h.keep fun _ hp => hb.cell hp

theorem flat_take (ls : List (List UInt8)) (k : Nat) (hk : k < ls.length) : (ls.take (k + 1)).flatten = (ls.take k).flatten ++ ls[k] := by
  rw [List.take_succ_eq_append_getElem hk, List.flatten_append]; simp
theorem flat_take_le (ls : List (List UInt8)) (k : Nat) : (ls.take k).flatten.length ≤ ls.flatten.length := by
  conv => rhs; rw [← List.take_append_drop k ls]
  rw [List.flatten_append, List.length_append]
  omega

set_option maxHeartbeats 1000000 in
theorem concat_any (A : Option Addr) (ls : List (List UInt8)) (m c : Nat) (w : World) (hm : ls.length = m) (hm2 : m ≤ 65536) (hn : ls.flatten.length ≤ 140737488351232) (h : RdL w A ls) :
    Calls Try.prog 58 #[.slice A m c] w fun e w' => ∃ v, e = .returned v ∧ w'.ownsRow w.heap.size 5 1 v ls.flatten.length (ls.flatten.map bv) ∧ Below w.heap.size w w' := by
  have HM := Lib.hid hm
  clear hm
  go_enter Try.func58, Try.ntmps58
  go_wp2
  go_loop [3, 11] (fun t i => ∃ k : Nat, k ≤ m ∧ i = .int .i64 k ∧ t = .int .i64 (ls.take k).flatten.length) (fun _ i => m - (intOf i).toNat)
  case atStart => exact ⟨0, Nat.zero_le _, rfl, by simp⟩
  case round =>
    obtain ⟨k, hk, rfl, rfl⟩ := hrel
    by_cases hlt : k < m
    · have hkl : k < ls.length := by rw [HM.out]; exact hlt
      obtain ⟨b, off, B, cB, rfl, hc, _⟩ := h.at_ hkl
      have h1 := flat_take_le ls (k + 1)
      have HF := Lib.hid (show (ls.take (k + 1)).flatten.length = (ls.take k).flatten.length + ls[k].length by rw [flat_take ls k hkl]; simp)
      have h2 : (ls.take k).flatten.length + ls[k].length ≤ ls.flatten.length := by rw [← HF.out]; exact h1
      clear h1
      generalize ls[k].length = lk at *
      generalize (ls.take k).flatten.length = tk at *
      go_wp2
      go_round
      case rel => exact ⟨k + 1, by omega, by go_num, by rw [HF.out]; go_num⟩
      case measure => simp [intOf]; omega
    · have Hk := Lib.hid (show (ls.take k).flatten.length = ls.flatten.length by rw [List.take_of_length_le (by rw [HM.out]; omega)])
      generalize htk : (ls.take k).flatten.length = tk at *
      have Htk := Lib.hid htk
      clear htk
      have htb : tk ≤ 140737488351232 := by rw [Hk.out]; exact hn
      go_wp2_with (go_at_call 79; refine (grow_any tk w (by omega)).mono ?_; rintro e w1 ⟨v1, rfl, hown1, hb1⟩)
      go_loopw [6, 27] (fun v i wr => ∃ k : Nat, k ≤ m ∧ i = .int .i64 k ∧ wr.ownsRow w.heap.size 5 1 v (ls.take k).flatten.length ((ls.take k).flatten.map bv) ∧ Below w.heap.size w wr) (fun _ i _ => m - (intOf i).toNat)
      case atStart => exact ⟨0, Nat.zero_le _, rfl, by simpa using hown1, hb1⟩
      case round =>
        obtain ⟨k2, hk2, rfl, hown, hb⟩ := hrel
        by_cases hlt2 : k2 < m
        · have hkl : k2 < ls.length := by rw [HM.out]; exact hlt2
          obtain ⟨b, off, B, cB, rfl, hc, hr⟩ := (h.below hb).at_ hkl
          have h1 := flat_take_le ls (k2 + 1)
          have HG := Lib.hid (flat_take ls k2 hkl)
          have h2 : (ls.take k2).flatten.length + ls[k2].length ≤ ls.flatten.length := by rw [HG.out] at h1; simpa using h1
          clear h1
          have HR := Lib.hid hr.cs
          have HO := Lib.hid hown
          clear hr hown
          generalize hlk : ls[k2] = lk at *
          generalize htk2 : (ls.take k2).flatten = tk2 at *
          clear hlk htk2
          go_wp2_with (at_builtin; refine wpList_app bytesT rfl (.tmp 31) (.tmp 32) rfl w.heap.size _ _ _ rfl HO.out B lk.length cB (lk.map bv) rfl (by simp) HR.out (bvs_one _) (by simp only [maxLen]; omega) (by omega) hb.size ?_; intro v' w' hown' hgr _)
          go_roundw
          case rel => exact ⟨k2 + 1, by omega, by go_num, by rw [HG.out]; simpa using hown', hb.grown hgr hb.size (fun q hq => (HO.out.lt q hq).1)⟩
          case measure => simp [intOf]; omega
        · have HO := Lib.hid hown
          clear hown
          go_wp2
          go_ret
          refine ⟨_, rfl, ?_, hb⟩
          have h3 := HO.out
          rw [List.take_of_length_le (by rw [HM.out]; omega)] at h3
          exact h3

/-- The same, the whole under one name. -/
theorem concat_is (A : Option Addr) (ls : List (List UInt8)) (l : List UInt8) (m c : Nat) (w : World) (hf : ls.flatten = l) (hm : ls.length = m) (hm2 : m ≤ 65536) (hn : l.length ≤ 140737488351232) (h : RdL w A ls) :
    Calls Try.prog 58 #[.slice A m c] w fun e w' => ∃ v, e = .returned v ∧ w'.ownsRow w.heap.size 5 1 v l.length (l.map bv) ∧ Below w.heap.size w w' := by
  subst hf
  exact concat_any A ls m c w hm hm2 hn h
end Go.Proofs.Ytcnhfbckaacalaa
