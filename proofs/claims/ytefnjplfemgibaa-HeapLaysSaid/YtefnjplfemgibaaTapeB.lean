/- The walks of Num, Int, Str, Byte, End, Open of layer 1; nil tapes. -/
import Derived.Test.YtefnjplfemgibaaNumber
import Derived.Test.YtefnjplfemgibaaLays
namespace Go.Proofs.Ytefnjplfemgibaa
open Go.RowKit
set_option linter.unusedVariables false

theorem number_stops_le {t : TS} (signed : Bool) : (t.number signed).2.bytes = t.bytes := by
  unfold TS.number
  split
  · split
    · rfl
    · unfold TS.rest
      split
      · split
        · rfl
        · split
          · rfl
          · split <;> rfl
      · split
        · rfl
        · split
          · rfl
          · split <;> rfl
  · rfl
theorem rest_lt (t : TS) (wd : Nat) (b : Bool) : (t.rest wd b).1.1 < 18446744073709551616 := by
  unfold TS.rest
  split
  · exact Nat.zero_lt_succ _
  · split
    · exact Nat.zero_lt_succ _
    · split
      · exact Nat.zero_lt_succ _
      · exact toldN_lt _
theorem number_lt {t : TS} (signed : Bool) : (t.number signed).1.1 < 18446744073709551616 := by
  unfold TS.number
  split
  · split
    · exact Nat.zero_lt_succ _
    · split <;> exact rest_lt _ _ _
  · exact Nat.zero_lt_succ _

def TS.int (t : TS) : Int × TS :=
  if 9223372036854775808 ≤ (t.number true).1.1 then (0, (t.number true).2.stops 11 t.pos)
  else (if (t.number true).1.2 = true then -((t.number true).1.1 : Int) - 1 else ((t.number true).1.1 : Int), (t.number true).2)
def TS.str (t : TS) (most : Int) : List UInt8 × TS :=
  if (t.number false).2.fault ≠ 0 then ([], (t.number false).2)
  else if (max most 0).toNat < (t.number false).1.1 then ([], (t.number false).2.stops 1 t.pos)
  else if (t.number false).2.bytes.length - (t.number false).2.pos < (t.number false).1.1 then ([], (t.number false).2.stops 3 t.pos)
  else (((t.number false).2.bytes.drop (t.number false).2.pos).take (t.number false).1.1, { (t.number false).2 with pos := (t.number false).2.pos + (t.number false).1.1 })
def TS.byte (t : TS) : UInt8 × TS :=
  if t.fault ≠ 0 then (0, t) else match t.bytes[t.pos]? with
    | none => (0, t.stops 3 t.pos)
    | some h => (h, { t with pos := t.pos + 1 })
def TS.end_ (t : TS) : Nat := if t.fault = 0 ∧ t.pos < t.bytes.length then 4 else t.fault

section
variable {pt : Nat} {A : Option Addr} {c : Nat} {t : TS} {w w' : World}
set_option maxHeartbeats 400000 in
theorem tnum_any (h : TapeAt pt A c t w) : Calls Try.prog 45 #[.pointer (some ⟨pt, 0, none⟩)] w fun r w' => r = .returned (.int .u64 (t.number false).1.1) ∧ TAct w pt A c (t.number false).2 w' := by
  have HN := Lib.hid (number_any h false)
  generalize t.number false = x at *
  go_enter Try.func45, Try.ntmps45
  go_wp2_with (go_at_call 79; refine HN.out.mono ?_; rintro e w2 ⟨rfl, hA⟩)
  go_ret
  exact ⟨rfl, hA⟩

end
end Go.Proofs.Ytefnjplfemgibaa
