/- Layer 12: the map of the program's names, keyed by a name and a number. -/
import Derived.Test.YthhindnjnijglaaChN
import Derived.DeepKeys4
namespace Go.Proofs.Ythhindnjnijglaa
open Go.RowKit Go.Maps Go.WideMaps
set_option linter.unusedVariables false

def keyN (s : List UInt8) (n : Int) : Lit := .string (keyBytes [.string s, .int .i64 n])
theorem laidOutC : laidOutB Try.prog = true := by kernel_rfl
theorem ckN : Keyed Try.prog 55 := Keyed.of_law (deep_law_laid laidOutC (m := 10) (by omega) (of_decide_eq_true (by kernel_rfl)) (by kernel_rfl) (by kernel_rfl))
theorem cellsN : Try.prog.cellsOf 55 = 2 := by kernel_rfl
theorem cellsNs : Try.prog.cellsOf 9 = 1 := by kernel_rfl
theorem cellsNi : Try.prog.cellsOf 3 = 1 := by kernel_rfl
theorem keyTypeN : Try.prog.keyType 55 = true := by kernel_rfl
theorem wfN {n : Nat} (h : n ≤ 9223372036854775807) : (Lit.int .i64 (n : Int)).wf = true := by
  simp [Lit.wf, IntKind.min, IntKind.max, IntKind.signed, IntKind.bits]
  omega
theorem keyOfN {s : List UInt8} {n : Nat} (hs : s.length ≤ maxLen) (hn : n ≤ 9223372036854775807) : keyOf Try.prog 55 (.agg #[.string ⟨s.toArray⟩, .int .i64 (n : Int)]) = some (keyN s n) := by
  have w2 := wfN hn
  obtain ⟨m, hm⟩ : ∃ m, Try.prog.types.size = m + 1 := ⟨Try.prog.types.size - 1, by have : Try.prog.types.size ≠ 0 := of_decide_eq_true (by kernel_rfl); omega⟩
  have hI : Try.prog.keyLits (m + 1) 3 [.int .i64 (n : Int)] = some [.int .i64 (n : Int)] := by
    unfold Program.keyLits
    rw [Try.underlying3]
    simp only [w2, and_self, if_true]
  have hS : Try.prog.keyLits (m + 1) 9 [.string ⟨s.toArray⟩] = some [.string s] := by
    unfold Program.keyLits
    rw [Try.underlying9]
    have hsz : (⟨s.toArray⟩ : ByteArray).size ≤ maxLen := by simpa [ByteArray.size] using hs
    simp [hsz]
  have hF : (Value.agg #[.string ⟨s.toArray⟩, .int .i64 (n : Int)]).formed Try.prog 55 = true := by
    simp [Value.formed, Try.underlying55, cellsN]
  have hL : Try.prog.keyLits (Try.prog.types.size + 1) 55 (Value.agg #[.string ⟨s.toArray⟩, .int .i64 (n : Int)]).cells.toList = some [.string s, .int .i64 (n : Int)] := by
    rw [hm]
    unfold Program.keyLits
    rw [Try.underlying55]
    simp only [Value.cells, cellsN, List.length_cons, List.length_nil]
    simp [hI, hS, cellsNs, cellsNi]
  unfold keyOf
  rw [Try.underlying55]
  simp only [keyTypeN, hF, Bool.and_self, if_true, hL, Option.map_some]
  rfl
theorem keyN_inj {s s' : List UInt8} {n n' : Nat} (h1 : s.length ≤ maxLen) (h2 : n ≤ 9223372036854775807) (h3 : s'.length ≤ maxLen) (h4 : n' ≤ 9223372036854775807) (h : keyN s n = keyN s' n') : s = s' ∧ n = n' := by
  have e := ckN.inj (keyOfN h1 h2) (by rw [h]; exact keyOfN h3 h4)
  simp only [Value.agg.injEq, Array.mk.injEq, List.cons.injEq, Value.int.injEq, Value.string.injEq, ByteArray.mk.injEq, true_and, and_true] at e
  exact ⟨by simpa using e.1, by omega⟩
/-- No name. -/
theorem NM.made (W : World) : NM (W.alloc (.map #[] 0)) W.heap.size (fun _ _ => false) := by
  refine ⟨0, .map [], World.ownsMap_made W _ _ _, fun V hV s n hs hn => ?_⟩
  obtain ⟨v, ps, hrun, hv⟩ := World.ownsMap.lookup hV ckN Try.underlying72 (czero V) rfl (keyOfN hs hn)
  simp only [DataW.atKey, List.find?_nil, hE, Option.some.injEq, Prod.mk.injEq, DataW.held.injEq] at hv
  rw [hrun, hv.1]
/-- One name. -/
theorem NM.put {W : World} {mb : Nat} {s : List UInt8} {n : Nat} (hs : s.length ≤ maxLen) (hn : n ≤ 9223372036854775807) (h : W.ownsMap (H := Value) Try.prog 55 hE mb 0 (.map [])) :
    ∃ w', (Instr.mapUpdate 72 (.map (some mb)) (.agg #[.string ⟨s.toArray⟩, .int .i64 (n : Int)]) (.bool true)).run Try.prog W = .ok () w' ∧ NM w' mb (fun s' n' => s' == s && n' == n) ∧ Fr (fun k => k = mb) W w' := by
  obtain ⟨wu, r1, r2, r3⟩ := World.ownsMap.store (val := .bool true) (d := .held (.bool true)) (ps := []) h ckN Try.underlying72 (by unfold maxLen; omega) (keyOfN hs hn) rfl
  refine ⟨wu, r1, ⟨_, _, r2, fun V hV s' n' hs' hn' => ?_⟩, Fr.of_grown r3.grown fun k hk _ => (Option.some.inj hk).symm⟩
  obtain ⟨v, ps, hrun, hv⟩ := World.ownsMap.lookup hV ckN Try.underlying72 (czero V) rfl (keyOfN hs' hn')
  by_cases he : s' = s ∧ n' = n
  · obtain ⟨rfl, rfl⟩ := he
    rw [atKey_put_same h.isMap (by trivial)] at hv
    simp only [hE, Option.some.injEq, Prod.mk.injEq, DataW.held.injEq] at hv
    rw [hrun, hv.1]
    simp
  · rw [atKey_put_other (fun e => he (keyN_inj hs' hn' hs hn e))] at hv
    simp only [DataW.atKey, List.find?_nil, hE, Option.some.injEq, Prod.mk.injEq, DataW.held.injEq] at hv
    rw [hrun, hv.1]
    have : (s' == s && n' == n) = false := by
      cases h1 : (s' == s && n' == n) with
      | false => rfl
      | true =>
        simp only [Bool.and_eq_true, beq_iff_eq] at h1
        exact absurd h1 he
    show _ = Result.ok (Value.bool (s' == s && n' == n)) V
    rw [this]
end Go.Proofs.Ythhindnjnijglaa
