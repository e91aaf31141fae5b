/- The walks of Str, Byte, End, Open of layer 1; nil tapes. -/
import Derived.Test.YtefnjplfemgibaaTapeB
namespace Go.Proofs.Ytefnjplfemgibaa
open Go.RowKit
set_option linter.unusedVariables false

section
variable {pt : Nat} {A : Option Addr} {c : Nat} {t : TS} {w w' : World}
def StrEnds (w : World) (pt : Nat) (A : Option Addr) (c : Nat) (x : List UInt8 × TS) (r : Ending) (w' : World) : Prop :=
  r = .returned (.string ⟨x.1.toArray⟩) ∧ TAct w pt A c x.2 w'

set_option maxHeartbeats 1000000 in
theorem tstr_any (h : TapeAt pt A c t w) (most : Int) (hm : most ≤ 9223372036854775807) : Calls Try.prog 46 #[.pointer (some ⟨pt, 0, none⟩), .int .i64 most] w (StrEnds w pt A c (t.str most)) := by
  have HP := Lib.hid (pos_any h)
  have HN := Lib.hid (tnum_any h)
  have hlt := number_lt (t := t) false
  have hby := number_stops_le (t := t) false
  have hpos := h.pos
  have HI : Hid (t.str most = if (t.number false).2.fault ≠ 0 then ([], (t.number false).2)
    else if (max most 0).toNat < (t.number false).1.1 then ([], (t.number false).2.stops 1 t.pos)
    else if (t.number false).2.bytes.length - (t.number false).2.pos < (t.number false).1.1 then ([], (t.number false).2.stops 3 t.pos)
    else (((t.number false).2.bytes.drop (t.number false).2.pos).take (t.number false).1.1, { (t.number false).2 with pos := (t.number false).2.pos + (t.number false).1.1 })) := rfl
  obtain ⟨n, b, t2, hx⟩ : ∃ n b t2, t.number false = ((n, b), t2) := ⟨_, _, _, rfl⟩
  rw [hx] at HN HI hlt hby
  simp only at hlt hby HN HI
  have hpos2 : t.pos ≤ t2.bytes.length := by rw [hby]; exact hpos
  clear hx hby
  obtain ⟨mx, hmx⟩ : ∃ mx : Nat, (mx : Int) = max most 0 := ⟨(max most 0).toNat, by omega⟩
  have hmx2 : (max most 0).toNat = mx := by omega
  rw [hmx2] at HI
  have hmx9 : mx ≤ 9223372036854775807 := by omega
  have qm : max most 0 = (mx : Int) := hmx.symm
  have qu : IntKind.u64.wrap (mx : Int) = (mx : Int) := by show (mx : Int) % 18446744073709551616 = _; omega
  clear hmx hmx2
  by_cases hf : t2.fault ≠ 0
  · rw [if_pos hf] at HI
    have hfb : (t2.fault == 0) = false := by simp [hf]
    have HFB := Lib.hid hfb
    clear hfb
    go_enter Try.func46, Try.ntmps46
    go_wp2_with (first
      | (go_at_call 80; refine HP.out.mono ?_; rintro e w' ⟨rfl, rfl⟩)
      | (go_at_call 45; refine HN.out.mono ?_; rintro e w2 ⟨rfl, hA⟩)
      | (go_at_call 81; refine (runs_any hA.tape).mono ?_; rw [HFB.out]; rintro e w3 ⟨rfl, rfl⟩))
    go_ret
    rw [HI.out]
    exact ⟨rfl, hA⟩
  · rw [if_neg hf] at HI
    have hfb : (t2.fault == 0) = true := by simpa using hf
    have HFB := Lib.hid hfb
    clear hfb
    by_cases hlong : mx < n
    · rw [if_pos hlong] at HI
      have hdl : decide (mx < n) = true := by simpa using hlong
      go_enter Try.func46, Try.ntmps46
      go_wp2_with (first
        | (go_at_call 80; refine HP.out.mono ?_; rintro e w' ⟨rfl, rfl⟩)
        | (go_at_call 45; refine HN.out.mono ?_; rintro e w2 ⟨rfl, hA⟩)
        | (go_at_call 81; refine (runs_any hA.tape).mono ?_; rw [HFB.out]; rintro e w3 ⟨rfl, rfl⟩)
        | (go_at_call 82; refine (stops_any hA.tape 1 t.pos (by omega) hpos2).mono ?_; rintro e w3 ⟨rfl, hA3⟩))
      go_ret
      rw [HI.out]
      exact ⟨rfl, hA.trans hA3⟩
    · rw [if_neg hlong] at HI
      have hdl : decide (mx < n) = false := by simpa using hlong
      have hn9 : n ≤ 9223372036854775807 := by omega
      by_cases hsh : t2.bytes.length - t2.pos < n
      · rw [if_pos hsh] at HI
        have hnil := fun W => run_str (P := Try.prog) Try.underlying51 Try.underlying5 Try.underlying9 W none 0 0 [] rfl (.inl rfl)
        go_enter Try.func46, Try.ntmps46
        go_wp2_with (first
          | (go_at_call 80; refine HP.out.mono ?_; rintro e w' ⟨rfl, rfl⟩)
          | (go_at_call 45; refine HN.out.mono ?_; rintro e w2 ⟨rfl, hA⟩)
          | (go_at_call 81; refine (runs_any hA.tape).mono ?_; rw [HFB.out]; rintro e w3 ⟨rfl, rfl⟩)
          | (go_at_call 83; refine (cut_short hA.tape n t.pos hsh hn9 hpos2).mono ?_; rintro e w3 ⟨rfl, hA3⟩))
        go_ret
        rw [HI.out]
        exact ⟨rfl, hA.trans hA3⟩
      · rw [if_neg hsh] at HI
        obtain ⟨x, hx⟩ : ∃ x, x = (t2.bytes.drop t2.pos).take n := ⟨_, rfl⟩
        rw [← hx] at HI
        have HXL := Lib.hid (show x.length = n by rw [hx]; simp; omega)
        have HX := Lib.hid hx
        clear hx
        go_enter Try.func46, Try.ntmps46
        go_wp2_with (first
          | (go_at_call 80; refine HP.out.mono ?_; rintro e w' ⟨rfl, rfl⟩)
          | (go_at_call 45; refine HN.out.mono ?_; rintro e w2 ⟨rfl, hA⟩)
          | (go_at_call 81; refine (runs_any hA.tape).mono ?_; rw [HFB.out]; rintro e w3 ⟨rfl, rfl⟩)
          | (go_at_call 83; refine (cut_ok hA.tape n t.pos (by omega) hpos2).mono ?_; rintro e w3 ⟨B, cB, rfl, hr3, hA3⟩; rw [← HX.out] at hr3; have hst := run_str (P := Try.prog) Try.underlying51 Try.underlying5 Try.underlying9 w3 B n cB x HXL.out hr3))
        go_ret
        rw [HI.out]
        exact ⟨rfl, hA.trans hA3⟩
end
end Go.Proofs.Ytefnjplfemgibaa
