/- The walks of Same (the reference's) and of live. -/
import Derived.Test.YthdhinhedgcbcaaGet
import Derived.Lib.SlBytesConst
namespace Go.Proofs.Ythdhinhedgcbcaa
open Go.RowKit
set_option linter.unusedVariables false

def sameB (k k' num num' : Nat) (l m : List UInt8) : Bool := decide (k = k' ∧ num = num' ∧ l = m)

set_option maxHeartbeats 400000 in
theorem same_any (k k' num num' : Nat) (A B : Option Addr) (n c n' c' : Nat) (l m : List UInt8) (w : World) (hl : l.length = n) (hm : m.length = n') (hr : Rd w A l) (hr' : Rd w B m) :
    Calls Try.prog 12 #[.agg #[.int .u8 k, .int .u64 num, .slice A n c], .agg #[.int .u8 k', .int .u64 num', .slice B n' c']] w fun e w' => e = .returned (.bool (sameB k k' num num' l m)) ∧ Below w.heap.size w w' := by
  by_cases h1 : k = k'
  · subst h1
    by_cases h2 : num = num'
    · subst h2
      have hb : ((k : Int) == k) = true := by simp
      have hb2 : ((num : Int) == num) = true := by simp
      have hs := run_str (P := Try.prog) Try.underlying23 Try.underlying5 Try.underlying9 ((w.alloc (.cells #[.int .u8 (k : Int), .int .u64 (num : Int), .slice A n c] 25)).alloc (.cells #[.int .u8 (k : Int), .int .u64 (num : Int), .slice B n' c'] 25)) A n c l hl (hr.below ((below_alloc _ _).alloc (by simp) _))
      have hs' := run_str (P := Try.prog) Try.underlying23 Try.underlying5 Try.underlying9 ((w.alloc (.cells #[.int .u8 (k : Int), .int .u64 (num : Int), .slice A n c] 25)).alloc (.cells #[.int .u8 (k : Int), .int .u64 (num : Int), .slice B n' c'] 25)) B n' c' m hm (hr'.below ((below_alloc _ _).alloc (by simp) _))
      have HL := Lib.hid hl
      have HM := Lib.hid hm
      clear hl hm
      go_enter Try.func12, Try.ntmps12
      go_wp2
      go_ret
      refine ⟨?_, (below_alloc _ _).alloc (by simp) _⟩
      have : sameB k k num num l m = (l == m) := by unfold sameB; rw [Bool.eq_iff_iff]; simp
      rw [this]
      rfl
    · have hb : ((k : Int) == k) = true := by simp
      have hb2 : ((num : Int) == num') = false := by rw [beq_eq_false_iff_ne]; omega
      have HF := Lib.hid (show sameB k k num num' l m = false by simp [sameB, h2])
      clear h2
      go_enter Try.func12, Try.ntmps12
      go_wp2
      go_ret
      exact ⟨by rw [HF.out]; rfl, (below_alloc _ _).alloc (by simp) _⟩
  · have hb : ((k : Int) == k') = false := by rw [beq_eq_false_iff_ne]; omega
    have HF := Lib.hid (show sameB k k' num num' l m = false by simp [sameB, h1])
    clear h1
    go_enter Try.func12, Try.ntmps12
    go_wp2
    go_ret
    exact ⟨by rw [HF.out]; rfl, (below_alloc _ _).alloc (by simp) _⟩
end Go.Proofs.Ythdhinhedgcbcaa
