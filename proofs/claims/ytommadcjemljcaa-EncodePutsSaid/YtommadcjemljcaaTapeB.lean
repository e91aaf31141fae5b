/- The walks of Num, Int, Str, Byte, End, Open of layer 1; nil tapes. -/
import Derived.Test.YtommadcjemljcaaNumber
import Derived.Test.YtommadcjemljcaaLays
namespace Go.Proofs.Ytommadcjemljcaa
open Go.RowKit
set_option linter.unusedVariables false

theorem number_stops_le {t : TS} (signed : Bool) : (t.number signed).2.bytes = t.bytes := by
  unfold TS.number
  split
  · split
    · rfl
    · unfold TS.rest
      split
      · split
        · rfl
        · split
          · rfl
          · split <;> rfl
      · split
        · rfl
        · split
          · rfl
          · split <;> rfl
  · rfl
theorem rest_lt (t : TS) (wd : Nat) (b : Bool) : (t.rest wd b).1.1 < 18446744073709551616 := by
  unfold TS.rest
  split
  · exact Nat.zero_lt_succ _
  · split
    · exact Nat.zero_lt_succ _
    · split
      · exact Nat.zero_lt_succ _
      · exact toldN_lt _
theorem number_lt {t : TS} (signed : Bool) : (t.number signed).1.1 < 18446744073709551616 := by
  unfold TS.number
  split
  · split
    · exact Nat.zero_lt_succ _
    · split <;> exact rest_lt _ _ _
  · exact Nat.zero_lt_succ _

def TS.int (t : TS) : Int × TS :=
  if 9223372036854775808 ≤ (t.number true).1.1 then (0, (t.number true).2.stops 11 t.pos)
  else (if (t.number true).1.2 = true then -((t.number true).1.1 : Int) - 1 else ((t.number true).1.1 : Int), (t.number true).2)
def TS.str (t : TS) (most : Int) : List UInt8 × TS :=
  if (t.number false).2.fault ≠ 0 then ([], (t.number false).2)
  else if (max most 0).toNat < (t.number false).1.1 then ([], (t.number false).2.stops 1 t.pos)
  else if (t.number false).2.bytes.length - (t.number false).2.pos < (t.number false).1.1 then ([], (t.number false).2.stops 3 t.pos)
  else (((t.number false).2.bytes.drop (t.number false).2.pos).take (t.number false).1.1, { (t.number false).2 with pos := (t.number false).2.pos + (t.number false).1.1 })
def TS.byte (t : TS) : UInt8 × TS :=
  if t.fault ≠ 0 then (0, t) else match t.bytes[t.pos]? with
    | none => (0, t.stops 3 t.pos)
    | some h => (h, { t with pos := t.pos + 1 })
def TS.end_ (t : TS) : Nat := if t.fault = 0 ∧ t.pos < t.bytes.length then 4 else t.fault

section
variable {pt : Nat} {A : Option Addr} {c : Nat} {t : TS} {w w' : World}
set_option maxHeartbeats 400000 in
theorem tnum_any (h : TapeAt pt A c t w) : Calls Try.prog 25 #[.pointer (some ⟨pt, 0, none⟩)] w fun r w' => r = .returned (.int .u64 (t.number false).1.1) ∧ TAct w pt A c (t.number false).2 w' := by
  have HN := Lib.hid (number_any h false)
  generalize t.number false = x at *
  go_enter Try.func25, Try.ntmps25
  go_wp2_with (go_at_call 49; refine HN.out.mono ?_; rintro e w2 ⟨rfl, hA⟩)
  go_ret
  exact ⟨rfl, hA⟩

set_option maxHeartbeats 800000 in
theorem tpint_any (h : TapeAt pt A c t w) : Calls Try.prog 64 #[.pointer (some ⟨pt, 0, none⟩)] w fun r w' => r = .returned (.int .i64 t.int.1) ∧ TAct w pt A c t.int.2 w' := by
  have HP := Lib.hid (pos_any h)
  have HN := Lib.hid (number_any h true)
  have hlt := number_lt (t := t) true
  have hby := number_stops_le (t := t) true
  have hpos := h.pos
  have HI : Hid (t.int = if 9223372036854775808 ≤ (t.number true).1.1 then (0, (t.number true).2.stops 11 t.pos) else (if (t.number true).1.2 = true then -((t.number true).1.1 : Int) - 1 else ((t.number true).1.1 : Int), (t.number true).2)) := rfl
  obtain ⟨n, b, t2, hx⟩ : ∃ n b t2, t.number true = ((n, b), t2) := ⟨_, _, _, rfl⟩
  rw [hx] at HN HI hlt hby
  simp only at hlt hby
  unfold NumEnds at HN
  simp only at HN HI
  have hpos2 : t.pos ≤ t2.bytes.length := by rw [hby]; exact hpos
  clear hx hby
  by_cases hbig : 9223372036854775808 ≤ n
  · rw [if_pos hbig] at HI
    have qw : IntKind.i64.wrap (n : Int) = (n : Int) - 18446744073709551616 := by rw [IntKind.wrap_i64]; omega
    go_enter Try.func64, Try.ntmps64
    go_wp2_with (first
      | (go_at_call 70; refine HP.out.mono ?_; rintro e w' ⟨rfl, rfl⟩)
      | (go_at_call 49; refine HN.out.mono ?_; rintro e w2 ⟨rfl, hA⟩)
      | (go_at_call 67; refine (stops_any hA.tape 11 t.pos (by omega) hpos2).mono ?_; rintro e w3 ⟨rfl, hA3⟩))
    go_ret
    rw [HI.out]
    exact ⟨rfl, hA.trans hA3⟩
  · rw [if_neg hbig] at HI
    have qw : IntKind.i64.wrap (n : Int) = (n : Int) := by rw [IntKind.wrap_i64]; omega
    have hn9 : n ≤ 9223372036854775807 := by omega
    have HX := Lib.hid (not_i64 (n : Int) (by omega) (by omega))
    cases b with
    | true =>
      go_enter Try.func64, Try.ntmps64
      go_wp2_with (first
        | (go_at_call 70; refine HP.out.mono ?_; rintro e w' ⟨rfl, rfl⟩)
        | (go_at_call 49; refine HN.out.mono ?_; rintro e w2 ⟨rfl, hA⟩))
      go_ret
      rw [HI.out]
      refine ⟨?_, hA⟩
      exact ret_int HX.out
    | false =>
      go_enter Try.func64, Try.ntmps64
      go_wp2_with (first
        | (go_at_call 70; refine HP.out.mono ?_; rintro e w' ⟨rfl, rfl⟩)
        | (go_at_call 49; refine HN.out.mono ?_; rintro e w2 ⟨rfl, hA⟩))
      go_ret
      rw [HI.out]
      exact ⟨rfl, hA⟩
end
end Go.Proofs.Ytommadcjemljcaa
